/-
  DERIVED. GIVEN WITH THE SEED: THE CARDS: each row of YtmlnoodopoaafaaDoorRows.lean that lists a variable, with what it lists TIED to the program's text (the seventh form; the later family's looks); each row that meets fmt, with fmt's text TOLD by the authors' own Lean function (tested against real Go, not proved from fmt's source: count such statements apart). THE CARD IS WHAT COUNTS. Prove the row's statement (the work); the ties are given (YtmlnoodopoaafaaDoorTie.lean); close each card by the builder's one call (the guide's Derived/Test/ToyasCard.lean, 'card_holds'). Laid BY PROGRAM, IN A SANDBOX (cutbox-door.mjs). By AI agents, Wed Nov 11 2026. No macro, syntax, notation, axiom, sorry.
-/
import Derived.Test.YtmlnoodopoaafaaDoorRows
import GoSem.ClaimSeven
namespace Go.Proofs.YtmlnoodopoaafaaDoor
namespace Rows

/-- THE TIED CARD OF 'palaverlaw07.GraphPlaces'. -/
def graphPlacesCard : Claim7 := { stood := { row := graphPlacesRow, standIns := [], harness := (true, "7d0680a9a06fec89d44131c89e4f9a2433804700a0f1a133130a03aed294bb52"), looks := false }, kinds := [], alts := [], laidByText := true, laidKinds := [.data], laidTests := true, laidLooks := .later }
def GraphPlacesCardSaid : Prop := Claim7.holds Tryd.pinned (.plain (OpenSpec.ofChange graphPlacesSpec)) graphPlacesCard

/-- THE TIED CARD OF 'palaverlaw07.GraphTells'. -/
def graphTellsCard : Claim7 := { stood := { row := graphTellsRow, standIns := [], harness := (true, "7d0680a9a06fec89d44131c89e4f9a2433804700a0f1a133130a03aed294bb52"), looks := false }, kinds := [], alts := [], laidByText := true, laidKinds := [.data], laidTests := true, laidLooks := .later }
def GraphTellsCardSaid : Prop := Claim7.holds Tryd.pinned (.plain (OpenSpec.ofChange graphTellsSpec)) graphTellsCard

/-- THE TIED CARD OF 'palaverlaw06.CompactWeak'. -/
def compactWeakCard : Claim7 := { stood := { row := compactWeakRow, standIns := [], harness := (true, "7d0680a9a06fec89d44131c89e4f9a2433804700a0f1a133130a03aed294bb52"), looks := false }, kinds := [], alts := [], laidByText := true, laidKinds := [.data], laidTests := true, laidLooks := .later }
def CompactWeakCardSaid : Prop := Claim7.holds Tryd.pinned (.plain (OpenSpec.ofChange compactWeakSpec)) compactWeakCard

/-- THE SECOND FORM's CARD OF 'palaverlaw07.GraphPlaces'. -/
def graphPlacesUptoCard : Claim7 := { stood := { row := graphPlacesUptoRow, standIns := [], harness := (true, "7d0680a9a06fec89d44131c89e4f9a2433804700a0f1a133130a03aed294bb52"), looks := false }, kinds := [], alts := [], laidByText := true, laidKinds := [.data], laidTests := true, laidLooks := .later }
def GraphPlacesUptoCardSaid : Prop := Claim7.holds Tryd.pinned (.plain (OpenSpec.upto graphPlacesSpec)) graphPlacesUptoCard

/-- THE SECOND FORM's CARD OF 'palaverlaw07.GraphTells'. -/
def graphTellsUptoCard : Claim7 := { stood := { row := graphTellsUptoRow, standIns := [], harness := (true, "7d0680a9a06fec89d44131c89e4f9a2433804700a0f1a133130a03aed294bb52"), looks := false }, kinds := [], alts := [], laidByText := true, laidKinds := [.data], laidTests := true, laidLooks := .later }
def GraphTellsUptoCardSaid : Prop := Claim7.holds Tryd.pinned (.plain (OpenSpec.upto graphTellsSpec)) graphTellsUptoCard

/-- THE SECOND FORM's CARD OF 'palaverlaw06.CompactWeak'. -/
def compactWeakUptoCard : Claim7 := { stood := { row := compactWeakUptoRow, standIns := [], harness := (true, "7d0680a9a06fec89d44131c89e4f9a2433804700a0f1a133130a03aed294bb52"), looks := false }, kinds := [], alts := [], laidByText := true, laidKinds := [.data], laidTests := true, laidLooks := .later }
def CompactWeakUptoCardSaid : Prop := Claim7.holds Tryd.pinned (.plain (OpenSpec.upto compactWeakSpec)) compactWeakUptoCard
end Rows
end Go.Proofs.YtmlnoodopoaafaaDoor

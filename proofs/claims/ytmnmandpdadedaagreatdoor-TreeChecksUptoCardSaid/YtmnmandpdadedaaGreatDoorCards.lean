/-
  DERIVED. GIVEN WITH THE SEED: THE CARDS: each row of YtmnmandpdadedaaGreatDoorRows.lean that lists a variable, with what it lists TIED to the program's text (the seventh form; the later family's looks); each row that meets fmt, with fmt's text TOLD by the authors' own Lean function (tested against real Go, not proved from fmt's source: count such statements apart). THE CARD IS WHAT COUNTS. Prove the row's statement (the work); the ties are given (YtmnmandpdadedaaGreatDoorTie.lean); close each card by the builder's one call (the guide's Derived/Test/ToyasCard.lean, 'card_holds'). Laid BY PROGRAM, IN A SANDBOX (cutbox-door.mjs). By AI agents, Wed Nov 11 2026. No macro, syntax, notation, axiom, sorry.
-/
import Derived.Test.YtmnmandpdadedaaGreatDoorRows
import GoSem.ClaimSeven
namespace Go.Proofs.YtmnmandpdadedaaGreatDoor
namespace Rows

/-- THE TIED CARD OF 'palaverlaw15.TreeChecks'. -/
def treeChecksCard : Claim7 := { stood := { row := treeChecksRow, standIns := [], harness := (true, "f20ed0e9076f7e4a963af1fc73adbdd469c2985ef3a3ab86eb114554a9480149"), looks := true }, kinds := [], alts := [], laidByText := true, laidKinds := [.data, .data, .data, .data, .sentinel, .sentinel, .pinned], laidTests := true, laidLooks := .later }
def TreeChecksCardSaid : Prop := Claim7.holds Tryz.pinned (.plain (OpenSpec.ofChange treeChecksSpec)) treeChecksCard

/-- THE TIED CARD OF 'palaverlaw15.TreeNodes'. -/
def treeNodesCard : Claim7 := { stood := { row := treeNodesRow, standIns := [], harness := (true, "f20ed0e9076f7e4a963af1fc73adbdd469c2985ef3a3ab86eb114554a9480149"), looks := true }, kinds := [], alts := [], laidByText := true, laidKinds := [.data, .data, .data, .data, .sentinel, .sentinel, .pinned], laidTests := true, laidLooks := .later }
def TreeNodesCardSaid : Prop := Claim7.holds Tryz.pinned (.plain (OpenSpec.ofChange treeNodesSpec)) treeNodesCard

/-- THE TIED CARD OF 'palaverlaw15.TreeSends'. -/
def treeSendsCard : Claim7 := { stood := { row := treeSendsRow, standIns := [], harness := (true, "f20ed0e9076f7e4a963af1fc73adbdd469c2985ef3a3ab86eb114554a9480149"), looks := true }, kinds := [], alts := [], laidByText := true, laidKinds := [.data, .data, .data, .data, .sentinel, .sentinel, .pinned], laidTests := true, laidLooks := .later }
def TreeSendsCardSaid : Prop := Claim7.holds Tryz.pinned (.plain (OpenSpec.ofChange treeSendsSpec)) treeSendsCard

/-- THE TIED CARD OF 'palaverlaw15.TreeAlls'. -/
def treeAllsCard : Claim7 := { stood := { row := treeAllsRow, standIns := [], harness := (true, "f20ed0e9076f7e4a963af1fc73adbdd469c2985ef3a3ab86eb114554a9480149"), looks := true }, kinds := [], alts := [], laidByText := true, laidKinds := [.data, .data, .data, .data, .sentinel, .sentinel, .pinned], laidTests := true, laidLooks := .later }
def TreeAllsCardSaid : Prop := Claim7.holds Tryz.pinned (.plain (OpenSpec.ofChange treeAllsSpec)) treeAllsCard

/-- THE TIED CARD OF 'palaverlaw15.TreeHolds'. -/
def treeHoldsCard : Claim7 := { stood := { row := treeHoldsRow, standIns := [], harness := (true, "f20ed0e9076f7e4a963af1fc73adbdd469c2985ef3a3ab86eb114554a9480149"), looks := true }, kinds := [], alts := [], laidByText := true, laidKinds := [.data, .data, .data, .data, .sentinel, .sentinel, .pinned], laidTests := true, laidLooks := .later }
def TreeHoldsCardSaid : Prop := Claim7.holds Tryz.pinned (.plain (OpenSpec.ofChange treeHoldsSpec)) treeHoldsCard

/-- THE TIED CARD OF 'palaverlaw15.TreeSizes'. -/
def treeSizesCard : Claim7 := { stood := { row := treeSizesRow, standIns := [], harness := (true, "f20ed0e9076f7e4a963af1fc73adbdd469c2985ef3a3ab86eb114554a9480149"), looks := true }, kinds := [], alts := [], laidByText := true, laidKinds := [.data, .data, .data, .data, .sentinel, .sentinel, .pinned], laidTests := true, laidLooks := .later }
def TreeSizesCardSaid : Prop := Claim7.holds Tryz.pinned (.plain (OpenSpec.ofChange treeSizesSpec)) treeSizesCard

/-- THE TIED CARD OF 'palaverlaw15.TreeTurned'. -/
def treeTurnedCard : Claim7 := { stood := { row := treeTurnedRow, standIns := [], harness := (true, "f20ed0e9076f7e4a963af1fc73adbdd469c2985ef3a3ab86eb114554a9480149"), looks := true }, kinds := [], alts := [], laidByText := true, laidKinds := [.data, .data, .data, .data, .sentinel, .sentinel, .pinned], laidTests := true, laidLooks := .later }
def TreeTurnedCardSaid : Prop := Claim7.holds Tryz.pinned (.plain (OpenSpec.ofChange treeTurnedSpec)) treeTurnedCard

/-- THE SECOND FORM's CARD OF 'palaverlaw15.TreeChecks'. -/
def treeChecksUptoCard : Claim7 := { stood := { row := treeChecksUptoRow, standIns := [], harness := (true, "f20ed0e9076f7e4a963af1fc73adbdd469c2985ef3a3ab86eb114554a9480149"), looks := true }, kinds := [], alts := [], laidByText := true, laidKinds := [.data, .data, .data, .data, .sentinel, .sentinel, .pinned], laidTests := true, laidLooks := .later }
def TreeChecksUptoCardSaid : Prop := Claim7.holds Tryz.pinned (.plain (OpenSpec.upto treeChecksSpec)) treeChecksUptoCard

/-- THE SECOND FORM's CARD OF 'palaverlaw15.TreeNodes'. -/
def treeNodesUptoCard : Claim7 := { stood := { row := treeNodesUptoRow, standIns := [], harness := (true, "f20ed0e9076f7e4a963af1fc73adbdd469c2985ef3a3ab86eb114554a9480149"), looks := true }, kinds := [], alts := [], laidByText := true, laidKinds := [.data, .data, .data, .data, .sentinel, .sentinel, .pinned], laidTests := true, laidLooks := .later }
def TreeNodesUptoCardSaid : Prop := Claim7.holds Tryz.pinned (.plain (OpenSpec.upto treeNodesSpec)) treeNodesUptoCard

/-- THE SECOND FORM's CARD OF 'palaverlaw15.TreeSends'. -/
def treeSendsUptoCard : Claim7 := { stood := { row := treeSendsUptoRow, standIns := [], harness := (true, "f20ed0e9076f7e4a963af1fc73adbdd469c2985ef3a3ab86eb114554a9480149"), looks := true }, kinds := [], alts := [], laidByText := true, laidKinds := [.data, .data, .data, .data, .sentinel, .sentinel, .pinned], laidTests := true, laidLooks := .later }
def TreeSendsUptoCardSaid : Prop := Claim7.holds Tryz.pinned (.plain (OpenSpec.upto treeSendsSpec)) treeSendsUptoCard

/-- THE SECOND FORM's CARD OF 'palaverlaw15.TreeAlls'. -/
def treeAllsUptoCard : Claim7 := { stood := { row := treeAllsUptoRow, standIns := [], harness := (true, "f20ed0e9076f7e4a963af1fc73adbdd469c2985ef3a3ab86eb114554a9480149"), looks := true }, kinds := [], alts := [], laidByText := true, laidKinds := [.data, .data, .data, .data, .sentinel, .sentinel, .pinned], laidTests := true, laidLooks := .later }
def TreeAllsUptoCardSaid : Prop := Claim7.holds Tryz.pinned (.plain (OpenSpec.upto treeAllsSpec)) treeAllsUptoCard

/-- THE SECOND FORM's CARD OF 'palaverlaw15.TreeHolds'. -/
def treeHoldsUptoCard : Claim7 := { stood := { row := treeHoldsUptoRow, standIns := [], harness := (true, "f20ed0e9076f7e4a963af1fc73adbdd469c2985ef3a3ab86eb114554a9480149"), looks := true }, kinds := [], alts := [], laidByText := true, laidKinds := [.data, .data, .data, .data, .sentinel, .sentinel, .pinned], laidTests := true, laidLooks := .later }
def TreeHoldsUptoCardSaid : Prop := Claim7.holds Tryz.pinned (.plain (OpenSpec.upto treeHoldsSpec)) treeHoldsUptoCard

/-- THE SECOND FORM's CARD OF 'palaverlaw15.TreeSizes'. -/
def treeSizesUptoCard : Claim7 := { stood := { row := treeSizesUptoRow, standIns := [], harness := (true, "f20ed0e9076f7e4a963af1fc73adbdd469c2985ef3a3ab86eb114554a9480149"), looks := true }, kinds := [], alts := [], laidByText := true, laidKinds := [.data, .data, .data, .data, .sentinel, .sentinel, .pinned], laidTests := true, laidLooks := .later }
def TreeSizesUptoCardSaid : Prop := Claim7.holds Tryz.pinned (.plain (OpenSpec.upto treeSizesSpec)) treeSizesUptoCard

/-- THE SECOND FORM's CARD OF 'palaverlaw15.TreeTurned'. -/
def treeTurnedUptoCard : Claim7 := { stood := { row := treeTurnedUptoRow, standIns := [], harness := (true, "f20ed0e9076f7e4a963af1fc73adbdd469c2985ef3a3ab86eb114554a9480149"), looks := true }, kinds := [], alts := [], laidByText := true, laidKinds := [.data, .data, .data, .data, .sentinel, .sentinel, .pinned], laidTests := true, laidLooks := .later }
def TreeTurnedUptoCardSaid : Prop := Claim7.holds Tryz.pinned (.plain (OpenSpec.upto treeTurnedSpec)) treeTurnedUptoCard
end Rows
end Go.Proofs.YtmnmandpdadedaaGreatDoor

/-
  DERIVED. GIVEN WITH THE SEED: THE CARDS: each row of YtijnokbblmbpkaaGreatDoorRows.lean that lists a variable, with what it lists TIED to the program's text (the seventh form; the later family's looks); each row that meets fmt, with fmt's text TOLD by the authors' own Lean function (tested against real Go, not proved from fmt's source: count such statements apart). THE CARD IS WHAT COUNTS. Prove the row's statement (the work); the ties are given (YtijnokbblmbpkaaGreatDoorTie.lean); close each card by the builder's one call (the guide's Derived/Test/ToyasCard.lean, 'card_holds'). Laid BY PROGRAM, IN A SANDBOX (cutbox-door.mjs). By AI agents, Wed Nov 11 2026. No macro, syntax, notation, axiom, sorry.
-/
import Derived.Test.YtijnokbblmbpkaaGreatDoorRows
import GoSem.ClaimSeven
namespace Go.Proofs.YtijnokbblmbpkaaGreatDoor
namespace Rows

/-- THE TIED CARD OF 'palaverlaw18.ScopeResolves'. -/
def scopeResolvesCard : Claim7 := { stood := { row := scopeResolvesRow, standIns := [], harness := (true, "6daf88f2f4d2b370971826726c69a292ac72862b7399ed4ad88f7d924292c8b6"), looks := true }, kinds := [], alts := [], laidByText := true, laidKinds := [.data, .data, .data, .data, .handle, .sentinel, .sentinel, .pinned], laidTests := true, laidLooks := .later }
def ScopeResolvesCardSaid : Prop := Claim7.holds Tryz.pinned (.plain (OpenSpec.ofChange scopeResolvesSpec)) scopeResolvesCard

/-- THE TIED CARD OF 'palaverlaw18.ScopeTexts'. -/
def scopeTextsCard : Claim7 := { stood := { row := scopeTextsRow, standIns := [], harness := (true, "6daf88f2f4d2b370971826726c69a292ac72862b7399ed4ad88f7d924292c8b6"), looks := true }, kinds := [], alts := [], laidByText := true, laidKinds := [.data, .data, .data, .data, .handle, .sentinel, .sentinel, .pinned], laidTests := true, laidLooks := .later }
def ScopeTextsCardSaid : Prop := Claim7.holds Tryz.pinned (.plain (OpenSpec.ofChange scopeTextsSpec)) scopeTextsCard

/-- THE TIED CARD OF 'palaverlaw18.ScopeNodes'. -/
def scopeNodesCard : Claim7 := { stood := { row := scopeNodesRow, standIns := [], harness := (true, "6daf88f2f4d2b370971826726c69a292ac72862b7399ed4ad88f7d924292c8b6"), looks := true }, kinds := [], alts := [], laidByText := true, laidKinds := [.data, .data, .data, .data, .handle, .sentinel, .sentinel, .pinned], laidTests := true, laidLooks := .later }
def ScopeNodesCardSaid : Prop := Claim7.holds Tryz.pinned (.plain (OpenSpec.ofChange scopeNodesSpec)) scopeNodesCard

/-- THE TIED CARD OF 'palaverlaw18.ScopeChains'. -/
def scopeChainsCard : Claim7 := { stood := { row := scopeChainsRow, standIns := [], harness := (true, "6daf88f2f4d2b370971826726c69a292ac72862b7399ed4ad88f7d924292c8b6"), looks := true }, kinds := [], alts := [], laidByText := true, laidKinds := [.data, .data, .data, .data, .handle, .sentinel, .sentinel, .pinned], laidTests := true, laidLooks := .later }
def ScopeChainsCardSaid : Prop := Claim7.holds Tryz.pinned (.plain (OpenSpec.ofChange scopeChainsSpec)) scopeChainsCard

/-- THE TIED CARD OF 'palaverlaw18.ScopeNames'. -/
def scopeNamesCard : Claim7 := { stood := { row := scopeNamesRow, standIns := [], harness := (true, "6daf88f2f4d2b370971826726c69a292ac72862b7399ed4ad88f7d924292c8b6"), looks := true }, kinds := [], alts := [], laidByText := true, laidKinds := [.data, .data, .data, .data, .handle, .sentinel, .sentinel, .pinned], laidTests := true, laidLooks := .later }
def ScopeNamesCardSaid : Prop := Claim7.holds Tryz.pinned (.plain (OpenSpec.ofChange scopeNamesSpec)) scopeNamesCard

/-- THE TIED CARD OF 'palaverlaw18.ScopeSound'. -/
def scopeSoundCard : Claim7 := { stood := { row := scopeSoundRow, standIns := [], harness := (true, "6daf88f2f4d2b370971826726c69a292ac72862b7399ed4ad88f7d924292c8b6"), looks := true }, kinds := [], alts := [], laidByText := true, laidKinds := [.data, .data, .data, .data, .handle, .sentinel, .sentinel, .pinned], laidTests := true, laidLooks := .later }
def ScopeSoundCardSaid : Prop := Claim7.holds Tryz.pinned (.plain (OpenSpec.ofChange scopeSoundSpec)) scopeSoundCard

/-- THE TIED CARD OF 'palaverlaw18.ScopeOpen'. -/
def scopeOpenCard : Claim7 := { stood := { row := scopeOpenRow, standIns := [], harness := (true, "6daf88f2f4d2b370971826726c69a292ac72862b7399ed4ad88f7d924292c8b6"), looks := true }, kinds := [], alts := [], laidByText := true, laidKinds := [.data, .data, .data, .data, .handle, .sentinel, .sentinel, .pinned], laidTests := true, laidLooks := .later }
def ScopeOpenCardSaid : Prop := Claim7.holds Tryz.pinned (.plain (OpenSpec.ofChange scopeOpenSpec)) scopeOpenCard

/-- THE TIED CARD OF 'palaverlaw18.ScopeMore'. -/
def scopeMoreCard : Claim7 := { stood := { row := scopeMoreRow, standIns := [], harness := (true, "6daf88f2f4d2b370971826726c69a292ac72862b7399ed4ad88f7d924292c8b6"), looks := true }, kinds := [], alts := [], laidByText := true, laidKinds := [.data, .data, .data, .data, .handle, .sentinel, .sentinel, .pinned], laidTests := true, laidLooks := .later }
def ScopeMoreCardSaid : Prop := Claim7.holds Tryz.pinned (.plain (OpenSpec.ofChange scopeMoreSpec)) scopeMoreCard

/-- THE SECOND FORM's CARD OF 'palaverlaw18.ScopeResolves'. -/
def scopeResolvesUptoCard : Claim7 := { stood := { row := scopeResolvesUptoRow, standIns := [], harness := (true, "6daf88f2f4d2b370971826726c69a292ac72862b7399ed4ad88f7d924292c8b6"), looks := true }, kinds := [], alts := [], laidByText := true, laidKinds := [.data, .data, .data, .data, .handle, .sentinel, .sentinel, .pinned], laidTests := true, laidLooks := .later }
def ScopeResolvesUptoCardSaid : Prop := Claim7.holds Tryz.pinned (.plain (OpenSpec.upto scopeResolvesSpec)) scopeResolvesUptoCard

/-- THE SECOND FORM's CARD OF 'palaverlaw18.ScopeTexts'. -/
def scopeTextsUptoCard : Claim7 := { stood := { row := scopeTextsUptoRow, standIns := [], harness := (true, "6daf88f2f4d2b370971826726c69a292ac72862b7399ed4ad88f7d924292c8b6"), looks := true }, kinds := [], alts := [], laidByText := true, laidKinds := [.data, .data, .data, .data, .handle, .sentinel, .sentinel, .pinned], laidTests := true, laidLooks := .later }
def ScopeTextsUptoCardSaid : Prop := Claim7.holds Tryz.pinned (.plain (OpenSpec.upto scopeTextsSpec)) scopeTextsUptoCard

/-- THE SECOND FORM's CARD OF 'palaverlaw18.ScopeNodes'. -/
def scopeNodesUptoCard : Claim7 := { stood := { row := scopeNodesUptoRow, standIns := [], harness := (true, "6daf88f2f4d2b370971826726c69a292ac72862b7399ed4ad88f7d924292c8b6"), looks := true }, kinds := [], alts := [], laidByText := true, laidKinds := [.data, .data, .data, .data, .handle, .sentinel, .sentinel, .pinned], laidTests := true, laidLooks := .later }
def ScopeNodesUptoCardSaid : Prop := Claim7.holds Tryz.pinned (.plain (OpenSpec.upto scopeNodesSpec)) scopeNodesUptoCard

/-- THE SECOND FORM's CARD OF 'palaverlaw18.ScopeChains'. -/
def scopeChainsUptoCard : Claim7 := { stood := { row := scopeChainsUptoRow, standIns := [], harness := (true, "6daf88f2f4d2b370971826726c69a292ac72862b7399ed4ad88f7d924292c8b6"), looks := true }, kinds := [], alts := [], laidByText := true, laidKinds := [.data, .data, .data, .data, .handle, .sentinel, .sentinel, .pinned], laidTests := true, laidLooks := .later }
def ScopeChainsUptoCardSaid : Prop := Claim7.holds Tryz.pinned (.plain (OpenSpec.upto scopeChainsSpec)) scopeChainsUptoCard

/-- THE SECOND FORM's CARD OF 'palaverlaw18.ScopeNames'. -/
def scopeNamesUptoCard : Claim7 := { stood := { row := scopeNamesUptoRow, standIns := [], harness := (true, "6daf88f2f4d2b370971826726c69a292ac72862b7399ed4ad88f7d924292c8b6"), looks := true }, kinds := [], alts := [], laidByText := true, laidKinds := [.data, .data, .data, .data, .handle, .sentinel, .sentinel, .pinned], laidTests := true, laidLooks := .later }
def ScopeNamesUptoCardSaid : Prop := Claim7.holds Tryz.pinned (.plain (OpenSpec.upto scopeNamesSpec)) scopeNamesUptoCard

/-- THE SECOND FORM's CARD OF 'palaverlaw18.ScopeSound'. -/
def scopeSoundUptoCard : Claim7 := { stood := { row := scopeSoundUptoRow, standIns := [], harness := (true, "6daf88f2f4d2b370971826726c69a292ac72862b7399ed4ad88f7d924292c8b6"), looks := true }, kinds := [], alts := [], laidByText := true, laidKinds := [.data, .data, .data, .data, .handle, .sentinel, .sentinel, .pinned], laidTests := true, laidLooks := .later }
def ScopeSoundUptoCardSaid : Prop := Claim7.holds Tryz.pinned (.plain (OpenSpec.upto scopeSoundSpec)) scopeSoundUptoCard

/-- THE SECOND FORM's CARD OF 'palaverlaw18.ScopeOpen'. -/
def scopeOpenUptoCard : Claim7 := { stood := { row := scopeOpenUptoRow, standIns := [], harness := (true, "6daf88f2f4d2b370971826726c69a292ac72862b7399ed4ad88f7d924292c8b6"), looks := true }, kinds := [], alts := [], laidByText := true, laidKinds := [.data, .data, .data, .data, .handle, .sentinel, .sentinel, .pinned], laidTests := true, laidLooks := .later }
def ScopeOpenUptoCardSaid : Prop := Claim7.holds Tryz.pinned (.plain (OpenSpec.upto scopeOpenSpec)) scopeOpenUptoCard

/-- THE SECOND FORM's CARD OF 'palaverlaw18.ScopeMore'. -/
def scopeMoreUptoCard : Claim7 := { stood := { row := scopeMoreUptoRow, standIns := [], harness := (true, "6daf88f2f4d2b370971826726c69a292ac72862b7399ed4ad88f7d924292c8b6"), looks := true }, kinds := [], alts := [], laidByText := true, laidKinds := [.data, .data, .data, .data, .handle, .sentinel, .sentinel, .pinned], laidTests := true, laidLooks := .later }
def ScopeMoreUptoCardSaid : Prop := Claim7.holds Tryz.pinned (.plain (OpenSpec.upto scopeMoreSpec)) scopeMoreUptoCard
end Rows
end Go.Proofs.YtijnokbblmbpkaaGreatDoor

/-
  DERIVED. GIVEN WITH THE SEED: THE CARDS: each row of YthpjneobmmpbnaaGreatDoorRows.lean that lists a variable, with what it lists TIED to the program's text (the seventh form; the later family's looks); each row that meets fmt, with fmt's text TOLD by the authors' own Lean function (tested against real Go, not proved from fmt's source: count such statements apart). THE CARD IS WHAT COUNTS. Prove the row's statement (the work); the ties are given (YthpjneobmmpbnaaGreatDoorTie.lean); close each card by the builder's one call (the guide's Derived/Test/ToyasCard.lean, 'card_holds'). Laid BY PROGRAM, IN A SANDBOX (cutbox-door.mjs). By AI agents, Wed Nov 11 2026. No macro, syntax, notation, axiom, sorry.
-/
import Derived.Test.YthpjneobmmpbnaaGreatDoorRows
import GoSem.ClaimSeven
namespace Go.Proofs.YthpjneobmmpbnaaGreatDoor
namespace Rows

/-- THE TIED CARD OF 'arborlaw13.DeltaEncodes'. -/
def deltaEncodesCard : Claim7 := { stood := { row := deltaEncodesRow, standIns := [], harness := (true, "8c9b11030964aa42ae6fd1d1f67058a724e933c8f9bdb9dc216485376cdc90bf"), looks := true }, kinds := [], alts := [], laidByText := true, laidKinds := [.data, .data, .data, .data, .sentinel, .sentinel, .pinned], laidTests := true, laidLooks := .later }
def DeltaEncodesCardSaid : Prop := Claim7.holds Tryz.pinned (.plain (OpenSpec.ofChange deltaEncodesSpec)) deltaEncodesCard

/-- THE TIED CARD OF 'arborlaw13.DeltaRights'. -/
def deltaRightsCard : Claim7 := { stood := { row := deltaRightsRow, standIns := [], harness := (true, "8c9b11030964aa42ae6fd1d1f67058a724e933c8f9bdb9dc216485376cdc90bf"), looks := true }, kinds := [], alts := [], laidByText := true, laidKinds := [.data, .data, .data, .data, .sentinel, .sentinel, .pinned], laidTests := true, laidLooks := .later }
def DeltaRightsCardSaid : Prop := Claim7.holds Tryz.pinned (.plain (OpenSpec.ofChange deltaRightsSpec)) deltaRightsCard

/-- THE TIED CARD OF 'arborlaw13.DeltaSteps'. -/
def deltaStepsCard : Claim7 := { stood := { row := deltaStepsRow, standIns := [], harness := (true, "8c9b11030964aa42ae6fd1d1f67058a724e933c8f9bdb9dc216485376cdc90bf"), looks := true }, kinds := [], alts := [], laidByText := true, laidKinds := [.data, .data, .data, .data, .sentinel, .sentinel, .pinned], laidTests := true, laidLooks := .later }
def DeltaStepsCardSaid : Prop := Claim7.holds Tryz.pinned (.plain (OpenSpec.ofChange deltaStepsSpec)) deltaStepsCard

/-- THE TIED CARD OF 'arborlaw13.DeltaDecodes'. -/
def deltaDecodesCard : Claim7 := { stood := { row := deltaDecodesRow, standIns := [], harness := (true, "8c9b11030964aa42ae6fd1d1f67058a724e933c8f9bdb9dc216485376cdc90bf"), looks := true }, kinds := [], alts := [], laidByText := true, laidKinds := [.data, .data, .data, .data, .sentinel, .sentinel, .pinned], laidTests := true, laidLooks := .later }
def DeltaDecodesCardSaid : Prop := Claim7.holds Tryz.pinned (.plain (OpenSpec.ofChange deltaDecodesSpec)) deltaDecodesCard

/-- THE TIED CARD OF 'arborlaw13.DeltaBack'. -/
def deltaBackCard : Claim7 := { stood := { row := deltaBackRow, standIns := [], harness := (true, "8c9b11030964aa42ae6fd1d1f67058a724e933c8f9bdb9dc216485376cdc90bf"), looks := true }, kinds := [], alts := [], laidByText := true, laidKinds := [.data, .data, .data, .data, .sentinel, .sentinel, .pinned], laidTests := true, laidLooks := .later }
def DeltaBackCardSaid : Prop := Claim7.holds Tryz.pinned (.plain (OpenSpec.ofChange deltaBackSpec)) deltaBackCard

/-- THE TIED CARD OF 'arborlaw13.DeltaPaths'. -/
def deltaPathsCard : Claim7 := { stood := { row := deltaPathsRow, standIns := [], harness := (true, "8c9b11030964aa42ae6fd1d1f67058a724e933c8f9bdb9dc216485376cdc90bf"), looks := true }, kinds := [], alts := [], laidByText := true, laidKinds := [.data, .data, .data, .data, .sentinel, .sentinel, .pinned], laidTests := true, laidLooks := .later }
def DeltaPathsCardSaid : Prop := Claim7.holds Tryz.pinned (.plain (OpenSpec.ofChange deltaPathsSpec)) deltaPathsCard

/-- THE TIED CARD OF 'arborlaw13.DeltaOwn'. -/
def deltaOwnCard : Claim7 := { stood := { row := deltaOwnRow, standIns := [], harness := (true, "8c9b11030964aa42ae6fd1d1f67058a724e933c8f9bdb9dc216485376cdc90bf"), looks := true }, kinds := [], alts := [], laidByText := true, laidKinds := [.data, .data, .data, .data, .sentinel, .sentinel, .pinned], laidTests := true, laidLooks := .later }
def DeltaOwnCardSaid : Prop := Claim7.holds Tryz.pinned (.plain (OpenSpec.ofChange deltaOwnSpec)) deltaOwnCard

/-- THE TIED CARD OF 'arborlaw13.DeltaOne'. -/
def deltaOneCard : Claim7 := { stood := { row := deltaOneRow, standIns := [], harness := (true, "8c9b11030964aa42ae6fd1d1f67058a724e933c8f9bdb9dc216485376cdc90bf"), looks := true }, kinds := [], alts := [], laidByText := true, laidKinds := [.data, .data, .data, .data, .sentinel, .sentinel, .pinned], laidTests := true, laidLooks := .later }
def DeltaOneCardSaid : Prop := Claim7.holds Tryz.pinned (.plain (OpenSpec.ofChange deltaOneSpec)) deltaOneCard

/-- THE TIED CARD OF 'arborlaw13.DeltaSames'. -/
def deltaSamesCard : Claim7 := { stood := { row := deltaSamesRow, standIns := [], harness := (true, "8c9b11030964aa42ae6fd1d1f67058a724e933c8f9bdb9dc216485376cdc90bf"), looks := true }, kinds := [], alts := [], laidByText := true, laidKinds := [.data, .data, .data, .data, .sentinel, .sentinel, .pinned], laidTests := true, laidLooks := .later }
def DeltaSamesCardSaid : Prop := Claim7.holds Tryz.pinned (.plain (OpenSpec.ofChange deltaSamesSpec)) deltaSamesCard

/-- THE SECOND FORM's CARD OF 'arborlaw13.DeltaEncodes'. -/
def deltaEncodesUptoCard : Claim7 := { stood := { row := deltaEncodesUptoRow, standIns := [], harness := (true, "8c9b11030964aa42ae6fd1d1f67058a724e933c8f9bdb9dc216485376cdc90bf"), looks := true }, kinds := [], alts := [], laidByText := true, laidKinds := [.data, .data, .data, .data, .sentinel, .sentinel, .pinned], laidTests := true, laidLooks := .later }
def DeltaEncodesUptoCardSaid : Prop := Claim7.holds Tryz.pinned (.plain (OpenSpec.upto deltaEncodesSpec)) deltaEncodesUptoCard

/-- THE SECOND FORM's CARD OF 'arborlaw13.DeltaRights'. -/
def deltaRightsUptoCard : Claim7 := { stood := { row := deltaRightsUptoRow, standIns := [], harness := (true, "8c9b11030964aa42ae6fd1d1f67058a724e933c8f9bdb9dc216485376cdc90bf"), looks := true }, kinds := [], alts := [], laidByText := true, laidKinds := [.data, .data, .data, .data, .sentinel, .sentinel, .pinned], laidTests := true, laidLooks := .later }
def DeltaRightsUptoCardSaid : Prop := Claim7.holds Tryz.pinned (.plain (OpenSpec.upto deltaRightsSpec)) deltaRightsUptoCard

/-- THE SECOND FORM's CARD OF 'arborlaw13.DeltaSteps'. -/
def deltaStepsUptoCard : Claim7 := { stood := { row := deltaStepsUptoRow, standIns := [], harness := (true, "8c9b11030964aa42ae6fd1d1f67058a724e933c8f9bdb9dc216485376cdc90bf"), looks := true }, kinds := [], alts := [], laidByText := true, laidKinds := [.data, .data, .data, .data, .sentinel, .sentinel, .pinned], laidTests := true, laidLooks := .later }
def DeltaStepsUptoCardSaid : Prop := Claim7.holds Tryz.pinned (.plain (OpenSpec.upto deltaStepsSpec)) deltaStepsUptoCard

/-- THE SECOND FORM's CARD OF 'arborlaw13.DeltaDecodes'. -/
def deltaDecodesUptoCard : Claim7 := { stood := { row := deltaDecodesUptoRow, standIns := [], harness := (true, "8c9b11030964aa42ae6fd1d1f67058a724e933c8f9bdb9dc216485376cdc90bf"), looks := true }, kinds := [], alts := [], laidByText := true, laidKinds := [.data, .data, .data, .data, .sentinel, .sentinel, .pinned], laidTests := true, laidLooks := .later }
def DeltaDecodesUptoCardSaid : Prop := Claim7.holds Tryz.pinned (.plain (OpenSpec.upto deltaDecodesSpec)) deltaDecodesUptoCard

/-- THE SECOND FORM's CARD OF 'arborlaw13.DeltaBack'. -/
def deltaBackUptoCard : Claim7 := { stood := { row := deltaBackUptoRow, standIns := [], harness := (true, "8c9b11030964aa42ae6fd1d1f67058a724e933c8f9bdb9dc216485376cdc90bf"), looks := true }, kinds := [], alts := [], laidByText := true, laidKinds := [.data, .data, .data, .data, .sentinel, .sentinel, .pinned], laidTests := true, laidLooks := .later }
def DeltaBackUptoCardSaid : Prop := Claim7.holds Tryz.pinned (.plain (OpenSpec.upto deltaBackSpec)) deltaBackUptoCard

/-- THE SECOND FORM's CARD OF 'arborlaw13.DeltaPaths'. -/
def deltaPathsUptoCard : Claim7 := { stood := { row := deltaPathsUptoRow, standIns := [], harness := (true, "8c9b11030964aa42ae6fd1d1f67058a724e933c8f9bdb9dc216485376cdc90bf"), looks := true }, kinds := [], alts := [], laidByText := true, laidKinds := [.data, .data, .data, .data, .sentinel, .sentinel, .pinned], laidTests := true, laidLooks := .later }
def DeltaPathsUptoCardSaid : Prop := Claim7.holds Tryz.pinned (.plain (OpenSpec.upto deltaPathsSpec)) deltaPathsUptoCard

/-- THE SECOND FORM's CARD OF 'arborlaw13.DeltaOwn'. -/
def deltaOwnUptoCard : Claim7 := { stood := { row := deltaOwnUptoRow, standIns := [], harness := (true, "8c9b11030964aa42ae6fd1d1f67058a724e933c8f9bdb9dc216485376cdc90bf"), looks := true }, kinds := [], alts := [], laidByText := true, laidKinds := [.data, .data, .data, .data, .sentinel, .sentinel, .pinned], laidTests := true, laidLooks := .later }
def DeltaOwnUptoCardSaid : Prop := Claim7.holds Tryz.pinned (.plain (OpenSpec.upto deltaOwnSpec)) deltaOwnUptoCard

/-- THE SECOND FORM's CARD OF 'arborlaw13.DeltaOne'. -/
def deltaOneUptoCard : Claim7 := { stood := { row := deltaOneUptoRow, standIns := [], harness := (true, "8c9b11030964aa42ae6fd1d1f67058a724e933c8f9bdb9dc216485376cdc90bf"), looks := true }, kinds := [], alts := [], laidByText := true, laidKinds := [.data, .data, .data, .data, .sentinel, .sentinel, .pinned], laidTests := true, laidLooks := .later }
def DeltaOneUptoCardSaid : Prop := Claim7.holds Tryz.pinned (.plain (OpenSpec.upto deltaOneSpec)) deltaOneUptoCard

/-- THE SECOND FORM's CARD OF 'arborlaw13.DeltaSames'. -/
def deltaSamesUptoCard : Claim7 := { stood := { row := deltaSamesUptoRow, standIns := [], harness := (true, "8c9b11030964aa42ae6fd1d1f67058a724e933c8f9bdb9dc216485376cdc90bf"), looks := true }, kinds := [], alts := [], laidByText := true, laidKinds := [.data, .data, .data, .data, .sentinel, .sentinel, .pinned], laidTests := true, laidLooks := .later }
def DeltaSamesUptoCardSaid : Prop := Claim7.holds Tryz.pinned (.plain (OpenSpec.upto deltaSamesSpec)) deltaSamesUptoCard
end Rows
end Go.Proofs.YthpjneobmmpbnaaGreatDoor

/-
  DERIVED. GIVEN WITH THE SEED: THE CARDS: each row of YtbpmmmnphpkdjaaGreatDoorRows.lean that lists a variable, with what it lists TIED to the program's text (the seventh form; the later family's looks); each row that meets fmt, with fmt's text TOLD by the authors' own Lean function (tested against real Go, not proved from fmt's source: count such statements apart). THE CARD IS WHAT COUNTS. Prove the row's statement (the work); the ties are given (YtbpmmmnphpkdjaaGreatDoorTie.lean); close each card by the builder's one call (the guide's Derived/Test/ToyasCard.lean, 'card_holds'). Laid BY PROGRAM, IN A SANDBOX (cutbox-door.mjs). By AI agents, Wed Nov 11 2026. No macro, syntax, notation, axiom, sorry.
-/
import Derived.Test.YtbpmmmnphpkdjaaGreatDoorRows
import GoSem.ClaimSeven
namespace Go.Proofs.YtbpmmmnphpkdjaaGreatDoor
namespace Rows

/-- THE TIED CARD OF 'arborlaw26.QueueQuorums'. -/
def queueQuorumsCard : Claim7 := { stood := { row := queueQuorumsRow, standIns := [], harness := (true, "1b247314dd681f321546cc8cf82d93d051c7bdf1c4b9cd61e656125e6867dd76"), looks := true }, kinds := [], alts := [], laidByText := true, laidKinds := [.data, .data, .data, .data, .sentinel, .sentinel, .pinned], laidTests := true, laidLooks := .later }
def QueueQuorumsCardSaid : Prop := Claim7.holds Tryz.pinned (.plain (OpenSpec.ofChange queueQuorumsSpec)) queueQuorumsCard

/-- THE TIED CARD OF 'arborlaw26.QueueMeets'. -/
def queueMeetsCard : Claim7 := { stood := { row := queueMeetsRow, standIns := [], harness := (true, "1b247314dd681f321546cc8cf82d93d051c7bdf1c4b9cd61e656125e6867dd76"), looks := true }, kinds := [], alts := [], laidByText := true, laidKinds := [.data, .data, .data, .data, .sentinel, .sentinel, .pinned], laidTests := true, laidLooks := .later }
def QueueMeetsCardSaid : Prop := Claim7.holds Tryz.pinned (.plain (OpenSpec.ofChange queueMeetsSpec)) queueMeetsCard

/-- THE TIED CARD OF 'arborlaw26.QueueVoices'. -/
def queueVoicesCard : Claim7 := { stood := { row := queueVoicesRow, standIns := [], harness := (true, "1b247314dd681f321546cc8cf82d93d051c7bdf1c4b9cd61e656125e6867dd76"), looks := true }, kinds := [], alts := [], laidByText := true, laidKinds := [.data, .data, .data, .data, .sentinel, .sentinel, .pinned], laidTests := true, laidLooks := .later }
def QueueVoicesCardSaid : Prop := Claim7.holds Tryz.pinned (.plain (OpenSpec.ofChange queueVoicesSpec)) queueVoicesCard

/-- THE TIED CARD OF 'arborlaw26.QueueOrder'. -/
def queueOrderCard : Claim7 := { stood := { row := queueOrderRow, standIns := [], harness := (true, "1b247314dd681f321546cc8cf82d93d051c7bdf1c4b9cd61e656125e6867dd76"), looks := true }, kinds := [], alts := [], laidByText := true, laidKinds := [.data, .data, .data, .data, .sentinel, .sentinel, .pinned], laidTests := true, laidLooks := .later }
def QueueOrderCardSaid : Prop := Claim7.holds Tryz.pinned (.plain (OpenSpec.ofChange queueOrderSpec)) queueOrderCard

/-- THE TIED CARD OF 'arborlaw26.QueueEqual'. -/
def queueEqualCard : Claim7 := { stood := { row := queueEqualRow, standIns := [], harness := (true, "1b247314dd681f321546cc8cf82d93d051c7bdf1c4b9cd61e656125e6867dd76"), looks := true }, kinds := [], alts := [], laidByText := true, laidKinds := [.data, .data, .data, .data, .sentinel, .sentinel, .pinned], laidTests := true, laidLooks := .later }
def QueueEqualCardSaid : Prop := Claim7.holds Tryz.pinned (.plain (OpenSpec.ofChange queueEqualSpec)) queueEqualCard

/-- THE TIED CARD OF 'arborlaw26.QueuePlays'. -/
def queuePlaysCard : Claim7 := { stood := { row := queuePlaysRow, standIns := [], harness := (true, "1b247314dd681f321546cc8cf82d93d051c7bdf1c4b9cd61e656125e6867dd76"), looks := true }, kinds := [], alts := [], laidByText := true, laidKinds := [.data, .data, .data, .data, .sentinel, .sentinel, .pinned], laidTests := true, laidLooks := .later }
def QueuePlaysCardSaid : Prop := Claim7.holds Tryz.pinned (.plain (OpenSpec.ofChange queuePlaysSpec)) queuePlaysCard

/-- THE TIED CARD OF 'arborlaw26.QueueNils'. -/
def queueNilsCard : Claim7 := { stood := { row := queueNilsRow, standIns := [], harness := (true, "1b247314dd681f321546cc8cf82d93d051c7bdf1c4b9cd61e656125e6867dd76"), looks := true }, kinds := [], alts := [], laidByText := true, laidKinds := [.data, .data, .data, .data, .sentinel, .sentinel, .pinned], laidTests := true, laidLooks := .later }
def QueueNilsCardSaid : Prop := Claim7.holds Tryz.pinned (.plain (OpenSpec.ofChange queueNilsSpec)) queueNilsCard

/-- THE TIED CARD OF 'arborlaw26.QueueWeights'. -/
def queueWeightsCard : Claim7 := { stood := { row := queueWeightsRow, standIns := [], harness := (true, "1b247314dd681f321546cc8cf82d93d051c7bdf1c4b9cd61e656125e6867dd76"), looks := true }, kinds := [], alts := [], laidByText := true, laidKinds := [.data, .data, .data, .data, .sentinel, .sentinel, .pinned], laidTests := true, laidLooks := .later }
def QueueWeightsCardSaid : Prop := Claim7.holds Tryz.pinned (.plain (OpenSpec.ofChange queueWeightsSpec)) queueWeightsCard

/-- THE TIED CARD OF 'arborlaw08.SessionBytes'. -/
def sessionBytesCard : Claim7 := { stood := { row := sessionBytesRow, standIns := [], harness := (true, "1b247314dd681f321546cc8cf82d93d051c7bdf1c4b9cd61e656125e6867dd76"), looks := true }, kinds := [], alts := [], laidByText := true, laidKinds := [.data, .data, .data, .data, .sentinel, .sentinel, .pinned], laidTests := true, laidLooks := .later }
def SessionBytesCardSaid : Prop := Claim7.holds Tryz.pinned (.plain (OpenSpec.ofChange sessionBytesSpec)) sessionBytesCard

/-- THE SECOND FORM's CARD OF 'arborlaw26.QueueQuorums'. -/
def queueQuorumsUptoCard : Claim7 := { stood := { row := queueQuorumsUptoRow, standIns := [], harness := (true, "1b247314dd681f321546cc8cf82d93d051c7bdf1c4b9cd61e656125e6867dd76"), looks := true }, kinds := [], alts := [], laidByText := true, laidKinds := [.data, .data, .data, .data, .sentinel, .sentinel, .pinned], laidTests := true, laidLooks := .later }
def QueueQuorumsUptoCardSaid : Prop := Claim7.holds Tryz.pinned (.plain (OpenSpec.upto queueQuorumsSpec)) queueQuorumsUptoCard

/-- THE SECOND FORM's CARD OF 'arborlaw26.QueueMeets'. -/
def queueMeetsUptoCard : Claim7 := { stood := { row := queueMeetsUptoRow, standIns := [], harness := (true, "1b247314dd681f321546cc8cf82d93d051c7bdf1c4b9cd61e656125e6867dd76"), looks := true }, kinds := [], alts := [], laidByText := true, laidKinds := [.data, .data, .data, .data, .sentinel, .sentinel, .pinned], laidTests := true, laidLooks := .later }
def QueueMeetsUptoCardSaid : Prop := Claim7.holds Tryz.pinned (.plain (OpenSpec.upto queueMeetsSpec)) queueMeetsUptoCard

/-- THE SECOND FORM's CARD OF 'arborlaw26.QueueVoices'. -/
def queueVoicesUptoCard : Claim7 := { stood := { row := queueVoicesUptoRow, standIns := [], harness := (true, "1b247314dd681f321546cc8cf82d93d051c7bdf1c4b9cd61e656125e6867dd76"), looks := true }, kinds := [], alts := [], laidByText := true, laidKinds := [.data, .data, .data, .data, .sentinel, .sentinel, .pinned], laidTests := true, laidLooks := .later }
def QueueVoicesUptoCardSaid : Prop := Claim7.holds Tryz.pinned (.plain (OpenSpec.upto queueVoicesSpec)) queueVoicesUptoCard

/-- THE SECOND FORM's CARD OF 'arborlaw26.QueueOrder'. -/
def queueOrderUptoCard : Claim7 := { stood := { row := queueOrderUptoRow, standIns := [], harness := (true, "1b247314dd681f321546cc8cf82d93d051c7bdf1c4b9cd61e656125e6867dd76"), looks := true }, kinds := [], alts := [], laidByText := true, laidKinds := [.data, .data, .data, .data, .sentinel, .sentinel, .pinned], laidTests := true, laidLooks := .later }
def QueueOrderUptoCardSaid : Prop := Claim7.holds Tryz.pinned (.plain (OpenSpec.upto queueOrderSpec)) queueOrderUptoCard

/-- THE SECOND FORM's CARD OF 'arborlaw26.QueueEqual'. -/
def queueEqualUptoCard : Claim7 := { stood := { row := queueEqualUptoRow, standIns := [], harness := (true, "1b247314dd681f321546cc8cf82d93d051c7bdf1c4b9cd61e656125e6867dd76"), looks := true }, kinds := [], alts := [], laidByText := true, laidKinds := [.data, .data, .data, .data, .sentinel, .sentinel, .pinned], laidTests := true, laidLooks := .later }
def QueueEqualUptoCardSaid : Prop := Claim7.holds Tryz.pinned (.plain (OpenSpec.upto queueEqualSpec)) queueEqualUptoCard

/-- THE SECOND FORM's CARD OF 'arborlaw26.QueuePlays'. -/
def queuePlaysUptoCard : Claim7 := { stood := { row := queuePlaysUptoRow, standIns := [], harness := (true, "1b247314dd681f321546cc8cf82d93d051c7bdf1c4b9cd61e656125e6867dd76"), looks := true }, kinds := [], alts := [], laidByText := true, laidKinds := [.data, .data, .data, .data, .sentinel, .sentinel, .pinned], laidTests := true, laidLooks := .later }
def QueuePlaysUptoCardSaid : Prop := Claim7.holds Tryz.pinned (.plain (OpenSpec.upto queuePlaysSpec)) queuePlaysUptoCard

/-- THE SECOND FORM's CARD OF 'arborlaw26.QueueNils'. -/
def queueNilsUptoCard : Claim7 := { stood := { row := queueNilsUptoRow, standIns := [], harness := (true, "1b247314dd681f321546cc8cf82d93d051c7bdf1c4b9cd61e656125e6867dd76"), looks := true }, kinds := [], alts := [], laidByText := true, laidKinds := [.data, .data, .data, .data, .sentinel, .sentinel, .pinned], laidTests := true, laidLooks := .later }
def QueueNilsUptoCardSaid : Prop := Claim7.holds Tryz.pinned (.plain (OpenSpec.upto queueNilsSpec)) queueNilsUptoCard

/-- THE SECOND FORM's CARD OF 'arborlaw26.QueueWeights'. -/
def queueWeightsUptoCard : Claim7 := { stood := { row := queueWeightsUptoRow, standIns := [], harness := (true, "1b247314dd681f321546cc8cf82d93d051c7bdf1c4b9cd61e656125e6867dd76"), looks := true }, kinds := [], alts := [], laidByText := true, laidKinds := [.data, .data, .data, .data, .sentinel, .sentinel, .pinned], laidTests := true, laidLooks := .later }
def QueueWeightsUptoCardSaid : Prop := Claim7.holds Tryz.pinned (.plain (OpenSpec.upto queueWeightsSpec)) queueWeightsUptoCard

/-- THE SECOND FORM's CARD OF 'arborlaw08.SessionBytes'. -/
def sessionBytesUptoCard : Claim7 := { stood := { row := sessionBytesUptoRow, standIns := [], harness := (true, "1b247314dd681f321546cc8cf82d93d051c7bdf1c4b9cd61e656125e6867dd76"), looks := true }, kinds := [], alts := [], laidByText := true, laidKinds := [.data, .data, .data, .data, .sentinel, .sentinel, .pinned], laidTests := true, laidLooks := .later }
def SessionBytesUptoCardSaid : Prop := Claim7.holds Tryz.pinned (.plain (OpenSpec.upto sessionBytesSpec)) sessionBytesUptoCard
end Rows
end Go.Proofs.YtbpmmmnphpkdjaaGreatDoor

/-
  DERIVED. GIVEN WITH THE SEED: THE CARDS: each row of YtfnigjeklcagnaaGreatDoorRows.lean that lists a variable, with what it lists TIED to the program's text (the seventh form; the later family's looks); each row that meets fmt, with fmt's text TOLD by the authors' own Lean function (tested against real Go, not proved from fmt's source: count such statements apart). THE CARD IS WHAT COUNTS. Prove the row's statement (the work); the ties are given (YtfnigjeklcagnaaGreatDoorTie.lean); close each card by the builder's one call (the guide's Derived/Test/ToyasCard.lean, 'card_holds'). Laid BY PROGRAM, IN A SANDBOX (cutbox-door.mjs). By AI agents, Wed Nov 11 2026. No macro, syntax, notation, axiom, sorry.
-/
import Derived.Test.YtfnigjeklcagnaaGreatDoorRows
import GoSem.ClaimSeven
namespace Go.Proofs.YtfnigjeklcagnaaGreatDoor
namespace Rows

/-- THE TIED CARD OF 'arborlaw08.SessionApart'. -/
def sessionApartCard : Claim7 := { stood := { row := sessionApartRow, standIns := [], harness := (true, "2590f075f8b975e852e443a1206df8876f47703362667b01cc1593c77a831d39"), looks := true }, kinds := [], alts := [], laidByText := true, laidKinds := [.data, .data, .data, .data, .sentinel, .sentinel, .pinned], laidTests := true, laidLooks := .later }
def SessionApartCardSaid : Prop := Claim7.holds Tryz.pinned (.plain (OpenSpec.ofChange sessionApartSpec)) sessionApartCard

/-- THE TIED CARD OF 'arborlaw08.SessionClocks'. -/
def sessionClocksCard : Claim7 := { stood := { row := sessionClocksRow, standIns := [], harness := (true, "2590f075f8b975e852e443a1206df8876f47703362667b01cc1593c77a831d39"), looks := true }, kinds := [], alts := [], laidByText := true, laidKinds := [.data, .data, .data, .data, .sentinel, .sentinel, .pinned], laidTests := true, laidLooks := .later }
def SessionClocksCardSaid : Prop := Claim7.holds Tryz.pinned (.plain (OpenSpec.ofChange sessionClocksSpec)) sessionClocksCard

/-- THE TIED CARD OF 'arborlaw08.SessionOrder'. -/
def sessionOrderCard : Claim7 := { stood := { row := sessionOrderRow, standIns := [], harness := (true, "2590f075f8b975e852e443a1206df8876f47703362667b01cc1593c77a831d39"), looks := true }, kinds := [], alts := [], laidByText := true, laidKinds := [.data, .data, .data, .data, .sentinel, .sentinel, .pinned], laidTests := true, laidLooks := .later }
def SessionOrderCardSaid : Prop := Claim7.holds Tryz.pinned (.plain (OpenSpec.ofChange sessionOrderSpec)) sessionOrderCard

/-- THE TIED CARD OF 'arborlaw08.SessionTables'. -/
def sessionTablesCard : Claim7 := { stood := { row := sessionTablesRow, standIns := [], harness := (true, "2590f075f8b975e852e443a1206df8876f47703362667b01cc1593c77a831d39"), looks := true }, kinds := [], alts := [], laidByText := true, laidKinds := [.data, .data, .data, .data, .sentinel, .sentinel, .pinned], laidTests := true, laidLooks := .later }
def SessionTablesCardSaid : Prop := Claim7.holds Tryz.pinned (.plain (OpenSpec.ofChange sessionTablesSpec)) sessionTablesCard

/-- THE TIED CARD OF 'arborlaw08.SessionNils'. -/
def sessionNilsCard : Claim7 := { stood := { row := sessionNilsRow, standIns := [], harness := (true, "2590f075f8b975e852e443a1206df8876f47703362667b01cc1593c77a831d39"), looks := true }, kinds := [], alts := [], laidByText := true, laidKinds := [.data, .data, .data, .data, .sentinel, .sentinel, .pinned], laidTests := true, laidLooks := .later }
def SessionNilsCardSaid : Prop := Claim7.holds Tryz.pinned (.plain (OpenSpec.ofChange sessionNilsSpec)) sessionNilsCard

/-- THE SECOND FORM's CARD OF 'arborlaw08.SessionApart'. -/
def sessionApartUptoCard : Claim7 := { stood := { row := sessionApartUptoRow, standIns := [], harness := (true, "2590f075f8b975e852e443a1206df8876f47703362667b01cc1593c77a831d39"), looks := true }, kinds := [], alts := [], laidByText := true, laidKinds := [.data, .data, .data, .data, .sentinel, .sentinel, .pinned], laidTests := true, laidLooks := .later }
def SessionApartUptoCardSaid : Prop := Claim7.holds Tryz.pinned (.plain (OpenSpec.upto sessionApartSpec)) sessionApartUptoCard

/-- THE SECOND FORM's CARD OF 'arborlaw08.SessionClocks'. -/
def sessionClocksUptoCard : Claim7 := { stood := { row := sessionClocksUptoRow, standIns := [], harness := (true, "2590f075f8b975e852e443a1206df8876f47703362667b01cc1593c77a831d39"), looks := true }, kinds := [], alts := [], laidByText := true, laidKinds := [.data, .data, .data, .data, .sentinel, .sentinel, .pinned], laidTests := true, laidLooks := .later }
def SessionClocksUptoCardSaid : Prop := Claim7.holds Tryz.pinned (.plain (OpenSpec.upto sessionClocksSpec)) sessionClocksUptoCard

/-- THE SECOND FORM's CARD OF 'arborlaw08.SessionOrder'. -/
def sessionOrderUptoCard : Claim7 := { stood := { row := sessionOrderUptoRow, standIns := [], harness := (true, "2590f075f8b975e852e443a1206df8876f47703362667b01cc1593c77a831d39"), looks := true }, kinds := [], alts := [], laidByText := true, laidKinds := [.data, .data, .data, .data, .sentinel, .sentinel, .pinned], laidTests := true, laidLooks := .later }
def SessionOrderUptoCardSaid : Prop := Claim7.holds Tryz.pinned (.plain (OpenSpec.upto sessionOrderSpec)) sessionOrderUptoCard

/-- THE SECOND FORM's CARD OF 'arborlaw08.SessionTables'. -/
def sessionTablesUptoCard : Claim7 := { stood := { row := sessionTablesUptoRow, standIns := [], harness := (true, "2590f075f8b975e852e443a1206df8876f47703362667b01cc1593c77a831d39"), looks := true }, kinds := [], alts := [], laidByText := true, laidKinds := [.data, .data, .data, .data, .sentinel, .sentinel, .pinned], laidTests := true, laidLooks := .later }
def SessionTablesUptoCardSaid : Prop := Claim7.holds Tryz.pinned (.plain (OpenSpec.upto sessionTablesSpec)) sessionTablesUptoCard

/-- THE SECOND FORM's CARD OF 'arborlaw08.SessionNils'. -/
def sessionNilsUptoCard : Claim7 := { stood := { row := sessionNilsUptoRow, standIns := [], harness := (true, "2590f075f8b975e852e443a1206df8876f47703362667b01cc1593c77a831d39"), looks := true }, kinds := [], alts := [], laidByText := true, laidKinds := [.data, .data, .data, .data, .sentinel, .sentinel, .pinned], laidTests := true, laidLooks := .later }
def SessionNilsUptoCardSaid : Prop := Claim7.holds Tryz.pinned (.plain (OpenSpec.upto sessionNilsSpec)) sessionNilsUptoCard
end Rows
end Go.Proofs.YtfnigjeklcagnaaGreatDoor

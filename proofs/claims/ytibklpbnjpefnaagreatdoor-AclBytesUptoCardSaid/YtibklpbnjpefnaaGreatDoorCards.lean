/-
  DERIVED. GIVEN WITH THE SEED: THE CARDS: each row of YtibklpbnjpefnaaGreatDoorRows.lean that lists a variable, with what it lists TIED to the program's text (the seventh form; the later family's looks); each row that meets fmt, with fmt's text TOLD by the authors' own Lean function (tested against real Go, not proved from fmt's source: count such statements apart). THE CARD IS WHAT COUNTS. Prove the row's statement (the work); the ties are given (YtibklpbnjpefnaaGreatDoorTie.lean); close each card by the builder's one call (the guide's Derived/Test/ToyasCard.lean, 'card_holds'). Laid BY PROGRAM, IN A SANDBOX (cutbox-door.mjs). By AI agents, Wed Nov 11 2026. No macro, syntax, notation, axiom, sorry.
-/
import Derived.Test.YtibklpbnjpefnaaGreatDoorRows
import GoSem.ClaimSeven
namespace Go.Proofs.YtibklpbnjpefnaaGreatDoor
namespace Rows

/-- THE TIED CARD OF 'arborlaw06.AclBytes'. -/
def aclBytesCard : Claim7 := { stood := { row := aclBytesRow, standIns := [], harness := (true, "bbb92a11150c0f957ae3a0ba1d4bd7495b24b09ae050024eee8e593b18144a9e"), looks := true }, kinds := [], alts := [], laidByText := true, laidKinds := [.data, .data, .data, .data, .sentinel, .sentinel, .pinned], laidTests := true, laidLooks := .later }
def AclBytesCardSaid : Prop := Claim7.holds Tryz.pinned (.plain (OpenSpec.ofChange aclBytesSpec)) aclBytesCard

/-- THE TIED CARD OF 'arborlaw08.SessionBytes'. -/
def sessionBytesCard : Claim7 := { stood := { row := sessionBytesRow, standIns := [], harness := (true, "bbb92a11150c0f957ae3a0ba1d4bd7495b24b09ae050024eee8e593b18144a9e"), looks := true }, kinds := [], alts := [], laidByText := true, laidKinds := [.data, .data, .data, .data, .sentinel, .sentinel, .pinned], laidTests := true, laidLooks := .later }
def SessionBytesCardSaid : Prop := Claim7.holds Tryz.pinned (.plain (OpenSpec.ofChange sessionBytesSpec)) sessionBytesCard

/-- THE SECOND FORM's CARD OF 'arborlaw06.AclBytes'. -/
def aclBytesUptoCard : Claim7 := { stood := { row := aclBytesUptoRow, standIns := [], harness := (true, "bbb92a11150c0f957ae3a0ba1d4bd7495b24b09ae050024eee8e593b18144a9e"), looks := true }, kinds := [], alts := [], laidByText := true, laidKinds := [.data, .data, .data, .data, .sentinel, .sentinel, .pinned], laidTests := true, laidLooks := .later }
def AclBytesUptoCardSaid : Prop := Claim7.holds Tryz.pinned (.plain (OpenSpec.upto aclBytesSpec)) aclBytesUptoCard

/-- THE SECOND FORM's CARD OF 'arborlaw08.SessionBytes'. -/
def sessionBytesUptoCard : Claim7 := { stood := { row := sessionBytesUptoRow, standIns := [], harness := (true, "bbb92a11150c0f957ae3a0ba1d4bd7495b24b09ae050024eee8e593b18144a9e"), looks := true }, kinds := [], alts := [], laidByText := true, laidKinds := [.data, .data, .data, .data, .sentinel, .sentinel, .pinned], laidTests := true, laidLooks := .later }
def SessionBytesUptoCardSaid : Prop := Claim7.holds Tryz.pinned (.plain (OpenSpec.upto sessionBytesSpec)) sessionBytesUptoCard
end Rows
end Go.Proofs.YtibklpbnjpefnaaGreatDoor

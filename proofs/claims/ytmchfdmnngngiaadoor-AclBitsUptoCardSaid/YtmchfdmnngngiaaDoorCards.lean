/-
  DERIVED. GIVEN WITH THE SEED: THE CARDS: each row of YtmchfdmnngngiaaDoorRows.lean that lists a variable, with what it lists TIED to the program's text (the seventh form; the later family's looks); each row that meets fmt, with fmt's text TOLD by the authors' own Lean function (tested against real Go, not proved from fmt's source: count such statements apart). THE CARD IS WHAT COUNTS. Prove the row's statement (the work); the ties are given (YtmchfdmnngngiaaDoorTie.lean); close each card by the builder's one call (the guide's Derived/Test/ToyasCard.lean, 'card_holds'). Laid BY PROGRAM, IN A SANDBOX (cutbox-door.mjs). By AI agents, Wed Nov 11 2026. No macro, syntax, notation, axiom, sorry.
-/
import Derived.Test.YtmchfdmnngngiaaDoorRows
import GoSem.ClaimSeven
namespace Go.Proofs.YtmchfdmnngngiaaDoor
namespace Rows

/-- THE TIED CARD OF 'arborlaw06.AclOrder'. -/
def aclOrderCard : Claim7 := { stood := { row := aclOrderRow, standIns := [], harness := (true, "1cb1e803d4cfa9d3acc1db7fbf147148d7f782a0e68aa2b5d72a369fadea2c8e"), looks := true }, kinds := [], alts := [], laidByText := true, laidKinds := [.data, .data, .data, .data, .sentinel, .sentinel, .pinned], laidTests := true, laidLooks := .later }
def AclOrderCardSaid : Prop := Claim7.holds Tryd.pinned (.plain (OpenSpec.ofChange aclOrderSpec)) aclOrderCard

/-- THE TIED CARD OF 'arborlaw06.AclBoth'. -/
def aclBothCard : Claim7 := { stood := { row := aclBothRow, standIns := [], harness := (true, "1cb1e803d4cfa9d3acc1db7fbf147148d7f782a0e68aa2b5d72a369fadea2c8e"), looks := true }, kinds := [], alts := [], laidByText := true, laidKinds := [.data, .data, .data, .data, .sentinel, .sentinel, .pinned], laidTests := true, laidLooks := .later }
def AclBothCardSaid : Prop := Claim7.holds Tryd.pinned (.plain (OpenSpec.ofChange aclBothSpec)) aclBothCard

/-- THE TIED CARD OF 'arborlaw06.AclFixes'. -/
def aclFixesCard : Claim7 := { stood := { row := aclFixesRow, standIns := [], harness := (true, "1cb1e803d4cfa9d3acc1db7fbf147148d7f782a0e68aa2b5d72a369fadea2c8e"), looks := true }, kinds := [], alts := [], laidByText := true, laidKinds := [.data, .data, .data, .data, .sentinel, .sentinel, .pinned], laidTests := true, laidLooks := .later }
def AclFixesCardSaid : Prop := Claim7.holds Tryd.pinned (.plain (OpenSpec.ofChange aclFixesSpec)) aclFixesCard

/-- THE TIED CARD OF 'arborlaw06.AclMays'. -/
def aclMaysCard : Claim7 := { stood := { row := aclMaysRow, standIns := [], harness := (true, "1cb1e803d4cfa9d3acc1db7fbf147148d7f782a0e68aa2b5d72a369fadea2c8e"), looks := true }, kinds := [], alts := [], laidByText := true, laidKinds := [.data, .data, .data, .data, .sentinel, .sentinel, .pinned], laidTests := true, laidLooks := .later }
def AclMaysCardSaid : Prop := Claim7.holds Tryd.pinned (.plain (OpenSpec.ofChange aclMaysSpec)) aclMaysCard

/-- THE TIED CARD OF 'arborlaw06.AclKept'. -/
def aclKeptCard : Claim7 := { stood := { row := aclKeptRow, standIns := [], harness := (true, "1cb1e803d4cfa9d3acc1db7fbf147148d7f782a0e68aa2b5d72a369fadea2c8e"), looks := true }, kinds := [], alts := [], laidByText := true, laidKinds := [.data, .data, .data, .data, .sentinel, .sentinel, .pinned], laidTests := true, laidLooks := .later }
def AclKeptCardSaid : Prop := Claim7.holds Tryd.pinned (.plain (OpenSpec.ofChange aclKeptSpec)) aclKeptCard

/-- THE TIED CARD OF 'arborlaw06.AclMore'. -/
def aclMoreCard : Claim7 := { stood := { row := aclMoreRow, standIns := [], harness := (true, "1cb1e803d4cfa9d3acc1db7fbf147148d7f782a0e68aa2b5d72a369fadea2c8e"), looks := true }, kinds := [], alts := [], laidByText := true, laidKinds := [.data, .data, .data, .data, .sentinel, .sentinel, .pinned], laidTests := true, laidLooks := .later }
def AclMoreCardSaid : Prop := Claim7.holds Tryd.pinned (.plain (OpenSpec.ofChange aclMoreSpec)) aclMoreCard

/-- THE TIED CARD OF 'arborlaw06.AclBits'. -/
def aclBitsCard : Claim7 := { stood := { row := aclBitsRow, standIns := [], harness := (true, "1cb1e803d4cfa9d3acc1db7fbf147148d7f782a0e68aa2b5d72a369fadea2c8e"), looks := true }, kinds := [], alts := [], laidByText := true, laidKinds := [.data, .data, .data, .data, .sentinel, .sentinel, .pinned], laidTests := true, laidLooks := .later }
def AclBitsCardSaid : Prop := Claim7.holds Tryd.pinned (.plain (OpenSpec.ofChange aclBitsSpec)) aclBitsCard

/-- THE TIED CARD OF 'arborlaw06.AclRights'. -/
def aclRightsCard : Claim7 := { stood := { row := aclRightsRow, standIns := [], harness := (true, "1cb1e803d4cfa9d3acc1db7fbf147148d7f782a0e68aa2b5d72a369fadea2c8e"), looks := true }, kinds := [], alts := [], laidByText := true, laidKinds := [.data, .data, .data, .data, .sentinel, .sentinel, .pinned], laidTests := true, laidLooks := .later }
def AclRightsCardSaid : Prop := Claim7.holds Tryd.pinned (.plain (OpenSpec.ofChange aclRightsSpec)) aclRightsCard

/-- THE SECOND FORM's CARD OF 'arborlaw06.AclOrder'. -/
def aclOrderUptoCard : Claim7 := { stood := { row := aclOrderUptoRow, standIns := [], harness := (true, "1cb1e803d4cfa9d3acc1db7fbf147148d7f782a0e68aa2b5d72a369fadea2c8e"), looks := true }, kinds := [], alts := [], laidByText := true, laidKinds := [.data, .data, .data, .data, .sentinel, .sentinel, .pinned], laidTests := true, laidLooks := .later }
def AclOrderUptoCardSaid : Prop := Claim7.holds Tryd.pinned (.plain (OpenSpec.upto aclOrderSpec)) aclOrderUptoCard

/-- THE SECOND FORM's CARD OF 'arborlaw06.AclBoth'. -/
def aclBothUptoCard : Claim7 := { stood := { row := aclBothUptoRow, standIns := [], harness := (true, "1cb1e803d4cfa9d3acc1db7fbf147148d7f782a0e68aa2b5d72a369fadea2c8e"), looks := true }, kinds := [], alts := [], laidByText := true, laidKinds := [.data, .data, .data, .data, .sentinel, .sentinel, .pinned], laidTests := true, laidLooks := .later }
def AclBothUptoCardSaid : Prop := Claim7.holds Tryd.pinned (.plain (OpenSpec.upto aclBothSpec)) aclBothUptoCard

/-- THE SECOND FORM's CARD OF 'arborlaw06.AclFixes'. -/
def aclFixesUptoCard : Claim7 := { stood := { row := aclFixesUptoRow, standIns := [], harness := (true, "1cb1e803d4cfa9d3acc1db7fbf147148d7f782a0e68aa2b5d72a369fadea2c8e"), looks := true }, kinds := [], alts := [], laidByText := true, laidKinds := [.data, .data, .data, .data, .sentinel, .sentinel, .pinned], laidTests := true, laidLooks := .later }
def AclFixesUptoCardSaid : Prop := Claim7.holds Tryd.pinned (.plain (OpenSpec.upto aclFixesSpec)) aclFixesUptoCard

/-- THE SECOND FORM's CARD OF 'arborlaw06.AclMays'. -/
def aclMaysUptoCard : Claim7 := { stood := { row := aclMaysUptoRow, standIns := [], harness := (true, "1cb1e803d4cfa9d3acc1db7fbf147148d7f782a0e68aa2b5d72a369fadea2c8e"), looks := true }, kinds := [], alts := [], laidByText := true, laidKinds := [.data, .data, .data, .data, .sentinel, .sentinel, .pinned], laidTests := true, laidLooks := .later }
def AclMaysUptoCardSaid : Prop := Claim7.holds Tryd.pinned (.plain (OpenSpec.upto aclMaysSpec)) aclMaysUptoCard

/-- THE SECOND FORM's CARD OF 'arborlaw06.AclKept'. -/
def aclKeptUptoCard : Claim7 := { stood := { row := aclKeptUptoRow, standIns := [], harness := (true, "1cb1e803d4cfa9d3acc1db7fbf147148d7f782a0e68aa2b5d72a369fadea2c8e"), looks := true }, kinds := [], alts := [], laidByText := true, laidKinds := [.data, .data, .data, .data, .sentinel, .sentinel, .pinned], laidTests := true, laidLooks := .later }
def AclKeptUptoCardSaid : Prop := Claim7.holds Tryd.pinned (.plain (OpenSpec.upto aclKeptSpec)) aclKeptUptoCard

/-- THE SECOND FORM's CARD OF 'arborlaw06.AclMore'. -/
def aclMoreUptoCard : Claim7 := { stood := { row := aclMoreUptoRow, standIns := [], harness := (true, "1cb1e803d4cfa9d3acc1db7fbf147148d7f782a0e68aa2b5d72a369fadea2c8e"), looks := true }, kinds := [], alts := [], laidByText := true, laidKinds := [.data, .data, .data, .data, .sentinel, .sentinel, .pinned], laidTests := true, laidLooks := .later }
def AclMoreUptoCardSaid : Prop := Claim7.holds Tryd.pinned (.plain (OpenSpec.upto aclMoreSpec)) aclMoreUptoCard

/-- THE SECOND FORM's CARD OF 'arborlaw06.AclBits'. -/
def aclBitsUptoCard : Claim7 := { stood := { row := aclBitsUptoRow, standIns := [], harness := (true, "1cb1e803d4cfa9d3acc1db7fbf147148d7f782a0e68aa2b5d72a369fadea2c8e"), looks := true }, kinds := [], alts := [], laidByText := true, laidKinds := [.data, .data, .data, .data, .sentinel, .sentinel, .pinned], laidTests := true, laidLooks := .later }
def AclBitsUptoCardSaid : Prop := Claim7.holds Tryd.pinned (.plain (OpenSpec.upto aclBitsSpec)) aclBitsUptoCard

/-- THE SECOND FORM's CARD OF 'arborlaw06.AclRights'. -/
def aclRightsUptoCard : Claim7 := { stood := { row := aclRightsUptoRow, standIns := [], harness := (true, "1cb1e803d4cfa9d3acc1db7fbf147148d7f782a0e68aa2b5d72a369fadea2c8e"), looks := true }, kinds := [], alts := [], laidByText := true, laidKinds := [.data, .data, .data, .data, .sentinel, .sentinel, .pinned], laidTests := true, laidLooks := .later }
def AclRightsUptoCardSaid : Prop := Claim7.holds Tryd.pinned (.plain (OpenSpec.upto aclRightsSpec)) aclRightsUptoCard
end Rows
end Go.Proofs.YtmchfdmnngngiaaDoor

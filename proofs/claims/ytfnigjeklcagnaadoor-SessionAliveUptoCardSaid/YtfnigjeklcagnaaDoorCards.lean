/-
  DERIVED. GIVEN WITH THE SEED: THE CARDS: each row of YtfnigjeklcagnaaDoorRows.lean that lists a variable, with what it lists TIED to the program's text (the seventh form; the later family's looks); each row that meets fmt, with fmt's text TOLD by the authors' own Lean function (tested against real Go, not proved from fmt's source: count such statements apart). THE CARD IS WHAT COUNTS. Prove the row's statement (the work); the ties are given (YtfnigjeklcagnaaDoorTie.lean); close each card by the builder's one call (the guide's Derived/Test/ToyasCard.lean, 'card_holds'). Laid BY PROGRAM, IN A SANDBOX (cutbox-door.mjs). By AI agents, Wed Nov 11 2026. No macro, syntax, notation, axiom, sorry.
-/
import Derived.Test.YtfnigjeklcagnaaDoorRows
import GoSem.ClaimSeven
namespace Go.Proofs.YtfnigjeklcagnaaDoor
namespace Rows

/-- THE TIED CARD OF 'arborlaw08.SessionAlive'. -/
def sessionAliveCard : Claim7 := { stood := { row := sessionAliveRow, standIns := [], harness := (true, "69b0553565b6a0fff5e1460f4a6a6245b13537b658662d99b2903cf6e6f3e804"), looks := true }, kinds := [], alts := [], laidByText := true, laidKinds := [.data, .data, .data, .data, .sentinel, .sentinel, .pinned], laidTests := true, laidLooks := .later }
def SessionAliveCardSaid : Prop := Claim7.holds Tryd.pinned (.plain (OpenSpec.ofChange sessionAliveSpec)) sessionAliveCard

/-- THE SECOND FORM's CARD OF 'arborlaw08.SessionAlive'. -/
def sessionAliveUptoCard : Claim7 := { stood := { row := sessionAliveUptoRow, standIns := [], harness := (true, "69b0553565b6a0fff5e1460f4a6a6245b13537b658662d99b2903cf6e6f3e804"), looks := true }, kinds := [], alts := [], laidByText := true, laidKinds := [.data, .data, .data, .data, .sentinel, .sentinel, .pinned], laidTests := true, laidLooks := .later }
def SessionAliveUptoCardSaid : Prop := Claim7.holds Tryd.pinned (.plain (OpenSpec.upto sessionAliveSpec)) sessionAliveUptoCard
end Rows
end Go.Proofs.YtfnigjeklcagnaaDoor

/-
  DERIVED. GIVEN WITH THE SEED: THE CARDS: each row of YtenhdbjkpopfmaaDoorRows.lean that lists a variable, with what it lists TIED to the program's text (the seventh form; the later family's looks); each row that meets fmt, with fmt's text TOLD by the authors' own Lean function (tested against real Go, not proved from fmt's source: count such statements apart). THE CARD IS WHAT COUNTS. Prove the row's statement (the work); the ties are given (YtenhdbjkpopfmaaDoorTie.lean); close each card by the builder's one call (the guide's Derived/Test/ToyasCard.lean, 'card_holds'). Laid BY PROGRAM, IN A SANDBOX (cutbox-door.mjs). By AI agents, Wed Nov 11 2026. No macro, syntax, notation, axiom, sorry.
-/
import Derived.Test.YtenhdbjkpopfmaaDoorRows
import GoSem.ClaimSeven
namespace Go.Proofs.YtenhdbjkpopfmaaDoor
namespace Rows

/-- THE TIED CARD OF 'arborlaw01.RunesCounts'. -/
def runesCountsCard : Claim7 := { stood := { row := runesCountsRow, standIns := [], harness := (true, "9a01412dc9c1ebc56f4447ec44053aa29a047b328169b427d5e256a400338b79"), looks := false }, kinds := [], alts := [], laidByText := true, laidKinds := [.data, .pinned], laidTests := true, laidLooks := .later }
def RunesCountsCardSaid : Prop := Claim7.holds Tryd.pinned (.plain (OpenSpec.ofChange runesCountsSpec)) runesCountsCard

/-- THE TIED CARD OF 'arborlaw01.RunesReads'. -/
def runesReadsCard : Claim7 := { stood := { row := runesReadsRow, standIns := [], harness := (true, "9a01412dc9c1ebc56f4447ec44053aa29a047b328169b427d5e256a400338b79"), looks := false }, kinds := [], alts := [], laidByText := true, laidKinds := [.data, .pinned], laidTests := true, laidLooks := .later }
def RunesReadsCardSaid : Prop := Claim7.holds Tryd.pinned (.plain (OpenSpec.ofChange runesReadsSpec)) runesReadsCard

/-- THE TIED CARD OF 'arborlaw01.RunesBack'. -/
def runesBackCard : Claim7 := { stood := { row := runesBackRow, standIns := [], harness := (true, "9a01412dc9c1ebc56f4447ec44053aa29a047b328169b427d5e256a400338b79"), looks := false }, kinds := [], alts := [], laidByText := true, laidKinds := [.data, .pinned], laidTests := true, laidLooks := .later }
def RunesBackCardSaid : Prop := Claim7.holds Tryd.pinned (.plain (OpenSpec.ofChange runesBackSpec)) runesBackCard

/-- THE TIED CARD OF 'arborlaw01.RunesParts'. -/
def runesPartsCard : Claim7 := { stood := { row := runesPartsRow, standIns := [], harness := (true, "9a01412dc9c1ebc56f4447ec44053aa29a047b328169b427d5e256a400338b79"), looks := false }, kinds := [], alts := [], laidByText := true, laidKinds := [.data, .pinned], laidTests := true, laidLooks := .later }
def RunesPartsCardSaid : Prop := Claim7.holds Tryd.pinned (.plain (OpenSpec.ofChange runesPartsSpec)) runesPartsCard

/-- THE TIED CARD OF 'arborlaw01.RunesOne'. -/
def runesOneCard : Claim7 := { stood := { row := runesOneRow, standIns := [], harness := (true, "9a01412dc9c1ebc56f4447ec44053aa29a047b328169b427d5e256a400338b79"), looks := false }, kinds := [], alts := [], laidByText := true, laidKinds := [.data, .pinned], laidTests := true, laidLooks := .later }
def RunesOneCardSaid : Prop := Claim7.holds Tryd.pinned (.plain (OpenSpec.ofChange runesOneSpec)) runesOneCard

/-- THE SECOND FORM's CARD OF 'arborlaw01.RunesCounts'. -/
def runesCountsUptoCard : Claim7 := { stood := { row := runesCountsUptoRow, standIns := [], harness := (true, "9a01412dc9c1ebc56f4447ec44053aa29a047b328169b427d5e256a400338b79"), looks := false }, kinds := [], alts := [], laidByText := true, laidKinds := [.data, .pinned], laidTests := true, laidLooks := .later }
def RunesCountsUptoCardSaid : Prop := Claim7.holds Tryd.pinned (.plain (OpenSpec.upto runesCountsSpec)) runesCountsUptoCard

/-- THE SECOND FORM's CARD OF 'arborlaw01.RunesReads'. -/
def runesReadsUptoCard : Claim7 := { stood := { row := runesReadsUptoRow, standIns := [], harness := (true, "9a01412dc9c1ebc56f4447ec44053aa29a047b328169b427d5e256a400338b79"), looks := false }, kinds := [], alts := [], laidByText := true, laidKinds := [.data, .pinned], laidTests := true, laidLooks := .later }
def RunesReadsUptoCardSaid : Prop := Claim7.holds Tryd.pinned (.plain (OpenSpec.upto runesReadsSpec)) runesReadsUptoCard

/-- THE SECOND FORM's CARD OF 'arborlaw01.RunesBack'. -/
def runesBackUptoCard : Claim7 := { stood := { row := runesBackUptoRow, standIns := [], harness := (true, "9a01412dc9c1ebc56f4447ec44053aa29a047b328169b427d5e256a400338b79"), looks := false }, kinds := [], alts := [], laidByText := true, laidKinds := [.data, .pinned], laidTests := true, laidLooks := .later }
def RunesBackUptoCardSaid : Prop := Claim7.holds Tryd.pinned (.plain (OpenSpec.upto runesBackSpec)) runesBackUptoCard

/-- THE SECOND FORM's CARD OF 'arborlaw01.RunesParts'. -/
def runesPartsUptoCard : Claim7 := { stood := { row := runesPartsUptoRow, standIns := [], harness := (true, "9a01412dc9c1ebc56f4447ec44053aa29a047b328169b427d5e256a400338b79"), looks := false }, kinds := [], alts := [], laidByText := true, laidKinds := [.data, .pinned], laidTests := true, laidLooks := .later }
def RunesPartsUptoCardSaid : Prop := Claim7.holds Tryd.pinned (.plain (OpenSpec.upto runesPartsSpec)) runesPartsUptoCard

/-- THE SECOND FORM's CARD OF 'arborlaw01.RunesOne'. -/
def runesOneUptoCard : Claim7 := { stood := { row := runesOneUptoRow, standIns := [], harness := (true, "9a01412dc9c1ebc56f4447ec44053aa29a047b328169b427d5e256a400338b79"), looks := false }, kinds := [], alts := [], laidByText := true, laidKinds := [.data, .pinned], laidTests := true, laidLooks := .later }
def RunesOneUptoCardSaid : Prop := Claim7.holds Tryd.pinned (.plain (OpenSpec.upto runesOneSpec)) runesOneUptoCard
end Rows
end Go.Proofs.YtenhdbjkpopfmaaDoor

/-
  No cell of these rows narrows 'for every input' (looked for: loops, veiled, ifaces, maps, wideKeys, modest, calm, conditions, laid).
  DERIVED. THE GIVEN ROWS OF THIS SEAT. 3 by the template 'for every input the law returns true; each argument reads behind the call as it read before'; 0 by the template 'total and deterministic' (their statements: YtenhdbjkpopfmaaTotals.lean).
  GIVEN WITH THE SEED: the statements are not yours to turn. If you find one false, say at which input.
  Laid BY PROGRAM, IN A SANDBOX (cutbox-rows.mjs): the forced cells as the released guide's own fill.sh prints them over the translation 7da617f055b62704… (all of the seat's roots in one cut). By AI agents, Wed Nov 11 2026. No macro, syntax, notation, axiom, sorry.
-/
import Derived.Test.YtenhdbjkpopfmaaChecked
import GoSem.Claim
import GoSem.ClaimJoined
import GoSem.ClaimMapViews
import Derived.JoinedTies
import Derived.KernelRfl
namespace Go.Proofs.Ytenhdbjkpopfmaa
/- THE CELL 'sum', in the pinned program and in every row, IS THE sha256 OF THE DUMP (.gsa) THAT YtenhdbjkpopfmaaProg.lean LOADS. Nothing in Lean hashes anything: it is a label: what it is worth is what the hold of that sum in a sandbox is worth. -/
noncomputable def Try.pinned : Pinned := { name := "ytenhdbjkpopfmaa", sum := "7da617f055b62704b22ed749fed03c6d543e258335de96ff0e474249d74e6c4f", checked := Try.checked }
namespace Rows
def none {H : Type} : Left H := { results := [], args := [] }

/-- 'arborlaw01.RunesKinds': WHATEVER THE INPUT: true; the input reads as it did. -/
def runesKindsSpec : ChangeSpec := { name := "runesKinds", fn := fun _ => fun
  | [d] => { results := [.lit (.bool true)], args := [d] }
  | _ => none }
def runesKindsRow : OpenClaim := { program := "ytenhdbjkpopfmaa", sum := "7da617f055b62704b22ed749fed03c6d543e258335de96ff0e474249d74e6c4f", func := "arbor/arborlaw01.RunesKinds", spec := "runesKinds", apart := false }
def RunesKindsSaid : Prop := runesKindsRow.holds Try.pinned (OpenSpec.ofChange runesKindsSpec)

/-- ITS FALSE NEIGHBOUR: 'it returns false'. Refute it at one input. -/
def runesKindsWrong : ChangeSpec := { name := "runesKinds", fn := fun _ => fun
  | [d] => { results := [.lit (.bool false)], args := [d] }
  | _ => none }
def RunesKindsWrongFalsely : Prop := runesKindsRow.holds Try.pinned (OpenSpec.ofChange runesKindsWrong)

/-- 'arborlaw01.RunesFirst': WHATEVER THE INPUT: true; the input reads as it did. -/
def runesFirstSpec : ChangeSpec := { name := "runesFirst", fn := fun _ => fun
  | [d] => { results := [.lit (.bool true)], args := [d] }
  | _ => none }
def runesFirstRow : OpenClaim := { program := "ytenhdbjkpopfmaa", sum := "7da617f055b62704b22ed749fed03c6d543e258335de96ff0e474249d74e6c4f", func := "arbor/arborlaw01.RunesFirst", spec := "runesFirst", apart := false }
def RunesFirstSaid : Prop := runesFirstRow.holds Try.pinned (OpenSpec.ofChange runesFirstSpec)

/-- ITS FALSE NEIGHBOUR: 'it returns false'. Refute it at one input. -/
def runesFirstWrong : ChangeSpec := { name := "runesFirst", fn := fun _ => fun
  | [d] => { results := [.lit (.bool false)], args := [d] }
  | _ => none }
def RunesFirstWrongFalsely : Prop := runesFirstRow.holds Try.pinned (OpenSpec.ofChange runesFirstWrong)

/-- 'arborlaw01.RunesShows': WHATEVER THE INPUT: true; the input reads as it did. -/
def runesShowsSpec : ChangeSpec := { name := "runesShows", fn := fun _ => fun
  | [d] => { results := [.lit (.bool true)], args := [d] }
  | _ => none }
def runesShowsRow : OpenClaim := { program := "ytenhdbjkpopfmaa", sum := "7da617f055b62704b22ed749fed03c6d543e258335de96ff0e474249d74e6c4f", func := "arbor/arborlaw01.RunesShows", spec := "runesShows", inPlace := ["internal/abi.NoEscape"], apart := false }
def RunesShowsSaid : Prop := runesShowsRow.holds Try.pinned (OpenSpec.ofChange runesShowsSpec)

/-- ITS FALSE NEIGHBOUR: 'it returns false'. Refute it at one input. -/
def runesShowsWrong : ChangeSpec := { name := "runesShows", fn := fun _ => fun
  | [d] => { results := [.lit (.bool false)], args := [d] }
  | _ => none }
def RunesShowsWrongFalsely : Prop := runesShowsRow.holds Try.pinned (OpenSpec.ofChange runesShowsWrong)

/- THE SECOND FORM. 'bulk': how many values and letters a reading holds, each counted each time it is reached (what is shared counts as often as it is met; a slice's spare places count too). A statement '..UptoSaid' is the law's where the arguments, and the package variables that the reading takes, are together of bulk at most 1048576: NARROWER than '..Said'. Prove '..Said' where nothing that the law and all that it calls make is longer than what came in: it says more and counts as full. Else prove '..UptoSaid'. A law counts once. -/
mutual
def uptoBulk {H : Type} : DataW H → Nat
  | .lit (.string bytes) => bytes.length + 1
  | .lit _ => 1
  | .nil => 1
  | .ptr d => uptoBulk d + 1
  | .slice elems spare => uptoBulkAll elems + uptoBulkAll spare + 1
  | .agg parts => uptoBulkAll parts + 1
  | .iface _ d => uptoBulk d + 1
  | .map entries => uptoBulkEntries entries + 1
  | .held _ => 1
def uptoBulkAll {H : Type} : List (DataW H) → Nat
  | [] => 0
  | d :: r => uptoBulk d + uptoBulkAll r
def uptoBulkEntries {H : Type} : List (Lit × DataW H) → Nat
  | [] => 0
  | x :: r => uptoBulkEntry x + uptoBulkEntries r
def uptoBulkEntry {H : Type} : Lit × DataW H → Nat
  | (.string bytes, d) => bytes.length + uptoBulk d + 1
  | (_, d) => uptoBulk d + 1
 end
def uptoSmall : (H : Type) → List (DataW H) → Bool := fun _ ds => decide (uptoBulkAll ds ≤ 1048576)
def OpenSpec.upto (s : _root_.Go.ChangeSpec) : _root_.Go.OpenSpec := { _root_.Go.OpenSpec.ofChange s with cond := some uptoSmall }

/-- 'arborlaw01.RunesKinds', WHERE WHAT IT READS IS OF BULK AT MOST 1048576: true; the input reads as it did. -/
def runesKindsUptoRow : OpenClaim := { program := "ytenhdbjkpopfmaa", sum := "7da617f055b62704b22ed749fed03c6d543e258335de96ff0e474249d74e6c4f", func := "arbor/arborlaw01.RunesKinds", spec := "runesKinds", apart := false, narrowed := true }
def RunesKindsUptoSaid : Prop := runesKindsUptoRow.holds Try.pinned (OpenSpec.upto runesKindsSpec)

/-- 'arborlaw01.RunesFirst', WHERE WHAT IT READS IS OF BULK AT MOST 1048576: true; the input reads as it did. -/
def runesFirstUptoRow : OpenClaim := { program := "ytenhdbjkpopfmaa", sum := "7da617f055b62704b22ed749fed03c6d543e258335de96ff0e474249d74e6c4f", func := "arbor/arborlaw01.RunesFirst", spec := "runesFirst", apart := false, narrowed := true }
def RunesFirstUptoSaid : Prop := runesFirstUptoRow.holds Try.pinned (OpenSpec.upto runesFirstSpec)

/-- 'arborlaw01.RunesShows', WHERE WHAT IT READS IS OF BULK AT MOST 1048576: true; the input reads as it did. -/
def runesShowsUptoRow : OpenClaim := { program := "ytenhdbjkpopfmaa", sum := "7da617f055b62704b22ed749fed03c6d543e258335de96ff0e474249d74e6c4f", func := "arbor/arborlaw01.RunesShows", spec := "runesShows", inPlace := ["internal/abi.NoEscape"], apart := false, narrowed := true }
def RunesShowsUptoSaid : Prop := runesShowsUptoRow.holds Try.pinned (OpenSpec.upto runesShowsSpec)

end Rows
end Go.Proofs.Ytenhdbjkpopfmaa

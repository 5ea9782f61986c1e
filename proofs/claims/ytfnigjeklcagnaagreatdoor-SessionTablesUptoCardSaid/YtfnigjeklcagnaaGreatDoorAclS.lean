/- The walks over lists of identities and of entries: the reference's Same, slices.Equal, slices.Contains, slices.ContainsFunc. No condition but lengths. -/
import Derived.Test.YtfnigjeklcagnaaGreatDoorAclB
import Derived.LoopTactic
import Derived.Deep.QuietTactic
import Derived.BigQuiet
import Derived.BigCall
namespace Go.Proofs.YtfnigjeklcagnaaGreatDoor
open Go.RowKit

def QuietB (w : World) (b : Bool) (e : Ending) (w' : World) : Prop := e = .returned (.bool b) ∧ ∃ q, w' = w.drewN q
theorem QuietB.mk {w w' : World} {a b : Bool} (h : ∃ q, w' = w.drewN q) (e : b = a) : QuietB w a (.returned (.bool b)) w' := ⟨by rw [e], h⟩
theorem list_ext_bang {α : Type} [Inhabited α] {xs ys : List α} (hl : xs.length = ys.length) (h : ∀ j, j < xs.length → xs[j]! = ys[j]!) : xs = ys := by
  refine List.ext_getElem hl fun j h1 h2 => ?_
  have := h j h1
  rwa [getElem!_pos xs j h1, getElem!_pos ys j h2] at this

end Go.Proofs.YtfnigjeklcagnaaGreatDoor

/- The walks over lists of identities and of entries: the reference's Same, slices.Equal, slices.Contains, slices.ContainsFunc. -/
import Derived.Test.YthpjneobmmpbnaaGreatDoorDAclDec
import Derived.LoopTactic
import Derived.Deep.QuietTactic
import Derived.BigQuiet
import Derived.BigCall
import Derived.Test.YthpjneobmmpbnaaGreatDoorDJutP
import Derived.Test.YthpjneobmmpbnaaGreatDoorDFrame
import Derived.Deep.Slices
import Derived.ChangeArms
import Derived.WideShapes
namespace Go.Proofs.YthpjneobmmpbnaaGreatDoor
open Go.RowKit

def QuietB (w : World) (b : Bool) (e : Ending) (w' : World) : Prop := e = .returned (.bool b) ∧ ∃ q, w' = w.drewN q
theorem QuietB.mk {w w' : World} {a b : Bool} (h : ∃ q, w' = w.drewN q) (e : b = a) : QuietB w a (.returned (.bool b)) w' := ⟨by rw [e], h⟩
theorem list_ext_bang {α : Type} [Inhabited α] {xs ys : List α} (hl : xs.length = ys.length) (h : ∀ j, j < xs.length → xs[j]! = ys[j]!) : xs = ys := by
  refine List.ext_getElem hl fun j h1 h2 => ?_
  have := h j h1
  rwa [getElem!_pos xs j h1, getElem!_pos ys j h2] at this

end Go.Proofs.YthpjneobmmpbnaaGreatDoor
namespace Go.Proofs.YthpjneobmmpbnaaGreatDoor
open Go.RowKit Go.WideShapes
set_option maxRecDepth 100000
theorem bulkAll_map {H : Type} (f : Nat → DataW H) : ∀ (l : List Nat) (i : Nat), i ∈ l → Rows.uptoBulk (f i) ≤ Rows.uptoBulkAll (l.map f) := fun _ _ h => bulk_part (List.mem_map_of_mem h)
theorem bulk_pos {H : Type} (d : DataW H) : 1 ≤ Rows.uptoBulk d := by
  cases d with
  | lit x => cases x <;> simp [Rows.uptoBulk]
  | _ => simp [Rows.uptoBulk]
theorem bulkAll_len {H : Type} : ∀ l : List (DataW H), l.length ≤ Rows.uptoBulkAll l
  | [] => by simp [Rows.uptoBulkAll]
  | d :: r => by have := bulkAll_len r; have := bulk_pos d; simp only [Rows.uptoBulkAll, List.length_cons]; omega
section
variable {H : Type} {enc : TypeId × Value → H} {w : World} {base : Nat} {spare : Nat → Bool} {held : Bool}
theorem add_two {a : Addr} (hs : a.spot = none) (i u : Nat) : (a.add i).add u = ⟨a.block, a.off + i + u, none⟩ := by
  obtain ⟨b, o, s⟩ := a
  simp only at hs
  subst hs
  simp only [Addr.add]
  by_cases h : i = 0 <;> by_cases h' : u = 0 <;> simp [h, h']
theorem add_nil_ (a : Addr) : a.add 0 = a := by simp [Addr.add]
end
end Go.Proofs.YthpjneobmmpbnaaGreatDoor

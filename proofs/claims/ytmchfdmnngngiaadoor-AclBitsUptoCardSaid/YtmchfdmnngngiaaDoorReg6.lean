/- Words for the laws' regions that draw their order and hold calls: cells that lie below stay. -/
import Derived.Test.YtmchfdmnngngiaaDoorApp6
import Derived.Deep.RegionHeld3
namespace Go.Proofs.YtmchfdmnngngiaaDoor
open Go.RowKit
theorem QuietB.below {w w' : World} {b : Bool} {e : Ending} (h : QuietB w b e w') : RetB w b e w' := by
  obtain ⟨he, q, rfl⟩ := h
  exact ⟨he, drewN_self _ _⟩
theorem keep1 {w w' : World} {a : Addr} {v : Value} (h : w.cell? a = some v) (hb : Below w.heap.size w w') : w'.cell? a = some v := (hb.cell (World.block_lt_of_cell? w _ h)).trans h
theorem sBelow {W w : World} {r : Prop} (h : Below W.heap.size W w ∧ r) : Below W.heap.size W w := h.1
theorem sKeep5 {W w w' : World} {a0 a1 a2 a3 a4 : Addr} {v0 v1 v2 v3 v4 : Value} (hb : Below w.heap.size w w') (h : Below W.heap.size W w ∧ w.cell? a0 = some v0 ∧ w.cell? a1 = some v1 ∧ w.cell? a2 = some v2 ∧ w.cell? a3 = some v3 ∧ w.cell? a4 = some v4) :
    Below W.heap.size W w' ∧ w'.cell? a0 = some v0 ∧ w'.cell? a1 = some v1 ∧ w'.cell? a2 = some v2 ∧ w'.cell? a3 = some v3 ∧ w'.cell? a4 = some v4 :=
  ⟨h.1.trans (hb.mono h.1.size), keep1 h.2.1 hb, keep1 h.2.2.1 hb, keep1 h.2.2.2.1 hb, keep1 h.2.2.2.2.1 hb, keep1 h.2.2.2.2.2 hb⟩
theorem drew_self (w : World) : Below w.heap.size w w.drew := Below.drew (Below.refl _ w)
end Go.Proofs.YtmchfdmnngngiaaDoor

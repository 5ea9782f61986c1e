/- The walk of arborlaw08.sameLongs. No condition but lengths. The walks of a table's Open at the example, and of live. -/
import Derived.Test.YthpjneobmmpbnaaGreatDoorGClkE
import Derived.Deep.RegionHeld3
import Derived.StillTailTactics
namespace Go.Proofs.YthpjneobmmpbnaaGreatDoor
open Go.RowKit Go.MapKept Go.Maps
open Go.ChangeMaps (setBlock heap_setBlock_same heap_setBlock_other)
theorem drew_self (w : World) : Below w.heap.size w w.drew := Below.drew (Below.refl _ w)
theorem keep1 {w w' : World} {a : Addr} {v : Value} (h : w.cell? a = some v) (hb : Below w.heap.size w w') : w'.cell? a = some v := (hb.cell (World.block_lt_of_cell? w _ h)).trans h
theorem eqNilIds (w : World) : (binOp .eql 26 (.slice none 0 0) (.slice none 0 0)).run Tryz.prog w = .ok (.bool true) w := by kernel_rfl
set_option maxRecDepth 100000 in
theorem cloneNil (w : World) : Calls Tryz.prog 102 #[.slice none 0 0] w fun e w' => e = .returned (.slice none 0 0) ∧ w = w' := by
  have hsl := eqNilIds
  go_enter Tryz.func102, Tryz.ntmps102
  go_wp2_with fail
  go_ret
  exact ⟨rfl, rfl⟩
end Go.Proofs.YthpjneobmmpbnaaGreatDoor

/- slices.Sorted(maps.Keys(m)) at a clock's maps: the keys, rising. -/
import Derived.Test.YtbpmmmnphpkdjaaGreatDoorWIter
import Derived.Test.YtbpmmmnphpkdjaaGreatDoorWOwnI
import Derived.Deep.QuietTactic
import Derived.BigQuiet
import Derived.IntWalk
import Derived.Laws.AppendOwn
import Derived.Deep.AppendLies
import Derived.Deep.RegionHeld3
import Derived.StillTailTactics
namespace Go.Proofs.YtbpmmmnphpkdjaaGreatDoor
set_option linter.unusedSimpArgs false
set_option maxRecDepth 100000
set_option maxHeartbeats 20000000
open Go.RowKit Go.MapKept Go.Maps
theorem Fr.drewN (own : List Nat) (w : World) (q : Nat) : Fr own w (w.drewN q) := ⟨rfl, rfl, rfl, Nat.le_refl _, fun _ _ _ => rfl⟩
open Go.RowKit Go.MapKept Go.Maps
theorem Fr.grown {own : List Nat} {w wr w5 : World} {row : Option Nat} (h : Fr own w wr) (hg : wr.grownBy w5 row) (hr : ∀ k, row = some k → w.heap.size ≤ k) : Fr own w w5 :=
 ⟨hg.os.trans h.os, hg.tape.trans h.tape, hg.output.trans h.output, Nat.le_trans h.size hg.size, fun g hlt hn => (hg.block g (Nat.lt_of_lt_of_le hlt h.size) (fun e => by have := hr g e.symm; omega)).trans (h.block g hlt hn)⟩
open Go.RowKit Go.MapKept Go.Maps
open Go.ChangeMaps (setBlock heap_setBlock_same heap_setBlock_other)
theorem qaj (w : World) : Below w.heap.size w w.drew := Below.drew (Below.refl _ w)
theorem qaC {w w' : World} {a : Addr} {v : Value} (h : w.cell? a = some v) (hb : Below w.heap.size w w') : w'.cell? a = some v := (hb.cell (World.block_lt_of_cell? w _ h)).trans h
theorem qmv (w : World) : (binOp .eql 45 (.slice none 0 0) (.slice none 0 0)).run Tryz.prog w = .ok (.bool true) w := by kernel_rfl
theorem qlK (w : World) : Calls Tryz.prog 154 #[.slice none 0 0] w fun e w' => e = .returned (.slice none 0 0) ∧ w = w' := by
 have hsl := qmv
 go_enter Tryz.func154, Tryz.ntmps154
 go_wp2_with fail
 go_ret
 exact ⟨rfl, rfl⟩
end Go.Proofs.YtbpmmmnphpkdjaaGreatDoor

/- Words for the laws QueuePlays and QueueWeights: two queues just made. No condition. -/
import Derived.Test.YtbpmmmnphpkdjaaGreatDoorWSpo
import Derived.Test.YtbpmmmnphpkdjaaGreatDoorWRqG
namespace Go.Proofs.YtbpmmmnphpkdjaaGreatDoor
set_option linter.unusedSimpArgs false
set_option maxRecDepth 100000
set_option maxHeartbeats 20000000
open Go.RowKit Go.MapKept Go.Maps
theorem RetV.bl {v : Value} {w w' : World} {e : Ending} (h : RetV v w e w') : e = .returned v ∧ Below w.heap.size w w' := by
 obtain ⟨h1, q, rfl⟩ := h
 exact ⟨h1, qac (Below.refl _ _) q⟩
theorem PlE.made {w0 w1 w2 w3 : World} {bq br : Nat} {st : QuT} {x : QuX} {R : Nat → Prop} {y : RqX} {Q : Nat → Prop} (h0 : Below w0.heap.size w0 w1) (hq : QuW w2 bq x R st) (g : w1.heap.size ≤ bq ∧ w1.heap.size ≤ x.gr ∧ w1.heap.size ≤ x.ga) (hb2 : Below w1.heap.size w1 w2)
  (hr : RqAt w3 w0.heap.size br y Q st) (k : w2.heap.size ≤ br ∧ w2.heap.size ≤ y.gv ∧ ∀ b, Q b → w2.heap.size ≤ b) (hb3 : Below w2.heap.size w2 w3) (I : QuInv st) : PlE w0 w3 bq br st st x R y Q := by
 have a1 := hq.lt; have a2 := hq.gr; have a3 := hq.ga; have a4 := hq.q.lt
 have s0 := h0.size; have s1 := hb2.size
 refine ⟨hq.below hb3, hr, I, I, fun g hg => ?_, ⟨fun h => ?_, fun h => ?_⟩, ⟨by omega, by omega, by omega⟩, h0.trans ((hb2.trans (hb3.mono s1)).mono s0)⟩
 ·have hl : g < w2.heap.size := by
   simp only [List.mem_cons, List.not_mem_nil, or_false] at hg
   rcases hg with rfl | rfl | rfl <;> omega
  exact ⟨by omega, by omega, fun h => by have := k.2.2 g h; omega⟩
 ·have := a4 _ h; omega
 ·have := a4 _ h; omega
end Go.Proofs.YtbpmmmnphpkdjaaGreatDoor

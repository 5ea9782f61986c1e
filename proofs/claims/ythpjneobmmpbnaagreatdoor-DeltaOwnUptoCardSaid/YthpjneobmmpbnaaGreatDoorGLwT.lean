/- The walks of the law's Txns and texts at equal lists, and of DeltaSteps. Condition: a delta's lists have at most 2^20. -/
import Derived.Test.YthpjneobmmpbnaaGreatDoorGLwS
import Derived.Test.YthpjneobmmpbnaaGreatDoorGDbK
namespace Go.Proofs.YthpjneobmmpbnaaGreatDoor
open Go.RowKit Go.MapKept Go.Maps
theorem steps_ok {d : DlT} (h : DlSm 1048576 d) : ∀ t ∈ stepsD d, TxOk 1048576 t := by
  intro t ht
  unfold stepsD at ht
  split at ht
  · cases ht
  have ht := (List.mem_filter.1 ht).1
  have htop := h.2.top
  unfold stepsL at ht
  split at ht
  · obtain ⟨j, hj, rfl⟩ := List.getElem_of_mem ht
    have := h.2.subAt (j := j) hj
    rwa [getElem!_pos d.t.subs j hj] at this
  split at ht
  · obtain ⟨p, hp, rfl⟩ := List.mem_map.1 ht
    obtain ⟨j, hj, rfl⟩ := List.getElem_of_mem hp
    have hs := htop.2.2.2.2.2.2.2.2.2 j hj
    rw [getElem!_pos d.t.v.paths j hj] at hs
    have t32 : in32 2 := ⟨by decide, by decide⟩
    have z32 : in32 0 := ⟨by decide, by decide⟩
    have z64 : in64 0 := ⟨by decide, by decide⟩
    exact TrAll.mk _ _ ⟨⟨t32, z64, z32, z32, z64, z64, z64, z32, z32⟩, hs, Nat.zero_le _, Nat.zero_le _, Nat.zero_le _, Nat.zero_le _, Nat.zero_le _, fun j hj => absurd hj (by simp), fun j hj => absurd hj (by simp), fun j hj => absurd hj (by simp)⟩ fun j hj => absurd hj (by simp)
  split at ht
  · cases ht
  · obtain rfl := List.mem_singleton.1 ht
    exact h.2
theorem touch_le {d : DlT} (h : DlSm 1048576 d) : (touchD d).length ≤ 4194304 := by
  have htop := h.2.top
  rw [touch_eq]
  have h1 := touchR_le (tKeys (stepsD d)); have h2 := tKeys_le (stepsD d); have h3 := stepsD_le htop.2.2.2.2.2.2.1 htop.2.2.2.2.2.1
  omega
end Go.Proofs.YthpjneobmmpbnaaGreatDoor

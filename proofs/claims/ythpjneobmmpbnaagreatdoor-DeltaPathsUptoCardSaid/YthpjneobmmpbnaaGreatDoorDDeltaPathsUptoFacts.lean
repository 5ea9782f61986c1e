/- The closed facts of the row of arbor/arborlaw13.DeltaPaths. No condition. -/
import Derived.Test.YthpjneobmmpbnaaGreatDoorRows
import Derived.MakeChecks
import Derived.Test.YthpjneobmmpbnaaGreatDoorDFrame
namespace Go.Proofs.YthpjneobmmpbnaaGreatDoor.deltaPaths
open Go.ChangeShapes Go.WideShapes Go.ChangeAt Go.RowKit
theorem and_intro_ {a b : Bool} (ha : a = true) (hb : b = true) : (a && b) = true := by rw [ha, hb]; rfl
set_option maxRecDepth 1000000 in
set_option maxHeartbeats 100000000 in
theorem facts : joinedFacts Tryz.pinned.checked.prog 8 Tryz.f8 (Rows.OpenSpec.upto Rows.deltaPathsSpec).bare Rows.deltaPathsUptoRow = true := by
  unfold joinedFacts
  iterate 31 refine and_intro_ ?_ (by as_aux_lemma => kernel_rfl)
  as_aux_lemma => kernel_rfl
end Go.Proofs.YthpjneobmmpbnaaGreatDoor.deltaPaths

/- The closed facts of the row of arbor/arborlaw13.DeltaOwn. No condition. -/
import Derived.Test.YthpjneobmmpbnaaGreatDoorRows
import Derived.MakeChecks
import Derived.Test.YthpjneobmmpbnaaGreatDoorGFrame
namespace Go.Proofs.YthpjneobmmpbnaaGreatDoor.deltaOwn
open Go.ChangeShapes Go.WideShapes Go.ChangeAt Go.RowKit
theorem and_intro_ {a b : Bool} (ha : a = true) (hb : b = true) : (a && b) = true := by rw [ha, hb]; rfl
set_option maxRecDepth 1000000 in
set_option maxHeartbeats 100000000 in
theorem facts : joinedFacts Tryz.pinned.checked.prog 9 Tryz.f9 (Rows.OpenSpec.upto Rows.deltaOwnSpec).bare Rows.deltaOwnUptoRow = true := by
  unfold joinedFacts
  iterate 31 refine and_intro_ ?_ (by as_aux_lemma => kernel_rfl)
  as_aux_lemma => kernel_rfl
end Go.Proofs.YthpjneobmmpbnaaGreatDoor.deltaOwn

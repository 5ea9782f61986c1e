/- The closed facts of the row of arbor/arborlaw13.DeltaBack. No condition. -/
import Derived.Test.YthpjneobmmpbnaaGreatDoorRows
import Derived.MakeChecks
import Derived.Test.YthpjneobmmpbnaaGreatDoorGFrame
namespace Go.Proofs.YthpjneobmmpbnaaGreatDoor.deltaBack
open Go.ChangeShapes Go.WideShapes Go.ChangeAt Go.RowKit
theorem and_intro_ {a b : Bool} (ha : a = true) (hb : b = true) : (a && b) = true := by rw [ha, hb]; rfl
set_option maxRecDepth 1000000 in
set_option maxHeartbeats 100000000 in
theorem facts : joinedFacts Tryz.pinned.checked.prog 7 Tryz.f7 (Rows.OpenSpec.upto Rows.deltaBackSpec).bare Rows.deltaBackUptoRow = true := by
  unfold joinedFacts
  iterate 31 refine and_intro_ ?_ (by as_aux_lemma => kernel_rfl)
  as_aux_lemma => kernel_rfl
end Go.Proofs.YthpjneobmmpbnaaGreatDoor.deltaBack

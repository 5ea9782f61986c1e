/- What runes.Kind and arborref01.Kind compute: one and the same table, as a plain function on integers. No condition but the parameter's own range. -/
import Derived.Test.YtbpmmmnphpkdjaaGreatDoorRows
import Derived.WalkKit
import Derived.ProofKit
import Derived.IntWalk
import Derived.WalkLawsBesides
import Derived.WalkSpells
namespace Go.Proofs.YtbpmmmnphpkdjaaGreatDoor
set_option linter.unusedSimpArgs false
set_option maxRecDepth 100000
set_option maxHeartbeats 20000000
open Go.RowKit

/-- The kinds of the document's table. -/
def qdC (r : Int) : Int :=
 if r < 0 ∨ 1114111 < r then 0 else if r = 0 then 2 else if r ≤ 31 ∨ (127 ≤ r ∧ r ≤ 159) then 3 else if 55296 ≤ r ∧ r ≤ 57343 then 4
 else if 57344 ≤ r ∧ r ≤ 63743 then 5 else if 65520 ≤ r ∧ r ≤ 65535 then 6 else if 65536 ≤ r then 7 else 1

theorem qcT {a b : Int} (h : a = b) : Ending.returned (.int .i64 a) = .returned (.int .i64 b) := by rw [h]

theorem qhZ (r : Int) (w : World) :
  Calls Tryz.prog 280 #[.int .i32 r] w fun e w' => e = .returned (.int .i64 (qdC r)) ∧ w = w' := by
 go_enter Tryz.func280, Tryz.ntmps280
 go_wp2
 all_goals
  go_ret
  refine ⟨qcT ?_, rfl⟩
  try simp only [beq_iff_eq, beq_eq_false_iff_ne, ne_eq] at *
  unfold qdC
  (repeat' split) <;> omega

theorem qik (r : Int) (w : World) :
  Calls Tryz.prog 281 #[.int .i64 r] w fun e w' => e = .returned (.int .i64 (qdC r)) ∧ w = w' := by
 go_enter Tryz.func281, Tryz.ntmps281
 go_wp2
 all_goals
  go_ret
  refine ⟨qcT ?_, rfl⟩
  try simp only [beq_iff_eq, beq_eq_false_iff_ne, ne_eq] at *
  unfold qdC
  (repeat' split) <;> omega
end Go.Proofs.YtbpmmmnphpkdjaaGreatDoor

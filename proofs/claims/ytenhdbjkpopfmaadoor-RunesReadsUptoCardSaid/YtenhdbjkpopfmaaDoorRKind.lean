/- What runes.Kind and arborref01.Kind compute: one and the same table, as a plain function on integers. No condition but the parameter's own range. -/
import Derived.Test.YtenhdbjkpopfmaaDoorRows
import Derived.WalkKit
import Derived.ProofKit
import Derived.IntWalk
import Derived.WalkLawsBesides
import Derived.WalkSpells
namespace Go.Proofs.YtenhdbjkpopfmaaDoor
open Go.RowKit

/-- The kinds of the document's table. -/
def kindI (r : Int) : Int :=
  if r < 0 ∨ 1114111 < r then 0 else if r = 0 then 2 else if r ≤ 31 ∨ (127 ≤ r ∧ r ≤ 159) then 3 else if 55296 ≤ r ∧ r ≤ 57343 then 4
  else if 57344 ≤ r ∧ r ≤ 63743 then 5 else if 65520 ≤ r ∧ r ≤ 65535 then 6 else if 65536 ≤ r then 7 else 1

theorem kindI_range (r : Int) : 0 ≤ kindI r ∧ kindI r ≤ 7 := by
  unfold kindI; repeat' split
  all_goals omega

theorem ret_i64 {a b : Int} (h : a = b) : Ending.returned (.int .i64 a) = .returned (.int .i64 b) := by rw [h]

set_option maxHeartbeats 400000 in
theorem kind_any (r : Int) (w : World) :
    Calls Tryd.prog 19 #[.int .i32 r] w fun e w' => e = .returned (.int .i64 (kindI r)) ∧ w = w' := by
  go_enter Tryd.func19, Tryd.ntmps19
  go_wp2
  all_goals
    go_ret
    refine ⟨ret_i64 ?_, rfl⟩
    try simp only [beq_iff_eq, beq_eq_false_iff_ne, ne_eq] at *
    unfold kindI
    (repeat' split) <;> omega

set_option maxHeartbeats 400000 in
theorem refKind_any (r : Int) (w : World) :
    Calls Tryd.prog 29 #[.int .i64 r] w fun e w' => e = .returned (.int .i64 (kindI r)) ∧ w = w' := by
  go_enter Tryd.func29, Tryd.ntmps29
  go_wp2
  all_goals
    go_ret
    refine ⟨ret_i64 ?_, rfl⟩
    try simp only [beq_iff_eq, beq_eq_false_iff_ne, ne_eq] at *
    unfold kindI
    (repeat' split) <;> omega
end Go.Proofs.YtenhdbjkpopfmaaDoor

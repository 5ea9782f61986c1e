/- The walk of the document's Find. Condition: at most 4096 proposals. -/
import Derived.Test.YtbpmmmnphpkdjaaGreatDoorWRqC
import Derived.Test.YtbpmmmnphpkdjaaGreatDoorWVto
namespace Go.Proofs.YtbpmmmnphpkdjaaGreatDoor
set_option linter.unusedSimpArgs false
set_option maxRecDepth 100000
set_option maxHeartbeats 20000000
open Go.RowKit Go.MapKept Go.Maps
/-- what Find answers -/
def FndW (st : QuT) (z : Int) (w : World) (e : Ending) (w' : World) : Prop := e = .returned (.tuple #[.int .i64 (fndN st z), .bool (fndB st z)]) ∧ Below w.heap.size w w'
theorem FndW.mk {st : QuT} {z x : Int} {b : Bool} {w w' : World} (h1 : (fndN st z : Int) = x) (h2 : fndB st z = b) (hb : Below w.heap.size w w') : FndW st z w (.returned (.tuple #[.int .i64 x, .bool b])) w' := ⟨by rw [h1, h2], hb⟩
theorem qeZ (w : World) (lo br : Nat) (y : RqX) (Q : Nat → Prop) (st : QuT) (z : Int) (H : RqAt w lo br y Q st) (hl4 : st.L.length ≤ 4096) :
  Calls Tryz.prog 114 #[.pointer (some ⟨br, 0, none⟩), .int .i64 z] w (FndW st z w) := by
 have c3 : w.cell? ⟨br, 3, none⟩ = some (.slice y.A st.L.length y.c) := by rw [qaf H.box]; rfl
 have HZC := Lib.hid (fun (j : Nat) (hj : j < st.L.length) => H.zc hj)
 have HCT := Lib.hid (qly st z)
 have HFB := Lib.hid (show fndB st z = (decide (fndN st z < st.L.length) && (st.L[fndN st z]!.d.zx == z)) from rfl)
 generalize hN : st.L.length = n at *
 clear H hN
 go_enter Tryz.func114, Tryz.ntmps114
 go_wp2_with fail
 go_loopw [6] (fun i wr => ∃ k : Nat, i = .int .i64 ↑k ∧ k ≤ n ∧ (∀ j, j < k → st.L[j]!.d.zx < z) ∧ wr = w) (fun i _ => n - (intOf i).toNat)
 case atStart => exact ⟨0, rfl, Nat.zero_le _, fun j hj => absurd hj (by omega), rfl⟩
 case round =>
 obtain ⟨k, rfl, hk, hall, rfl⟩ := hrel
 have HALL := Lib.hid hall; clear hall
 by_cases hlt : k < n
 ·obtain ⟨b, off, eA, hz⟩ := HZC.out k hlt
  rw [eA] at c3
  have hki : (k : Int) < (n : Int) := by omega
  have hk0 : (0 : Int) ≤ (k : Int) := by omega
  by_cases hy : st.L[k]!.d.zx < z
  ·have HN := Lib.hid (show ∀ j, j < k + 1 → st.L[j]!.d.zx < z from fun j hj => by
    rcases Nat.lt_succ_iff_lt_or_eq.1 hj with h3 | rfl
    ·exact HALL.out j h3
    ·exact hy)
   have t1 : decide (st.L[k]!.d.zx < z) = true := decide_eq_true hy
   clear hy eA HZC HCT HFB
   generalize st.L[k]!.d.zx = yy at *
   go_wp2_with fail
   go_roundw
   case rel => exact ⟨k + 1, by go_num, by omega, HN.out, trivial⟩
   case measure => simp [intOf]; omega
  ·have t1 : decide (st.L[k]!.d.zx < z) = false := decide_eq_false hy
   have HN := Lib.hid (HCT.out k (by omega) HALL.out (.inr ⟨hlt, by omega⟩))
   have HF := Lib.hid (show fndB st z = (st.L[k]!.d.zx == z) by rw [HFB.out, HN.out, decide_eq_true hlt, Bool.true_and])
   clear hy eA HZC HCT HFB
   generalize st.L[k]!.d.zx = yy at *
   go_wp2_with fail
   go_quiet (fail)
   go_wp2_with fail
   go_ret2
   exact FndW.mk (by rw [HN.out]) HF.out (qbl _ _)
 ·obtain rfl : k = n := by omega
  have HN := Lib.hid (HCT.out k (Nat.le_refl _) HALL.out (.inl rfl))
  have HF := Lib.hid (show fndB st z = false by rw [HFB.out, HN.out, decide_eq_false (Nat.lt_irrefl k), Bool.false_and])
  clear HZC HCT HFB
  go_wp2_with fail
  go_quiet (fail)
  go_wp2_with fail
  go_ret2
  exact FndW.mk (by rw [HN.out]) HF.out (qbl _ _)
end Go.Proofs.YtbpmmmnphpkdjaaGreatDoor

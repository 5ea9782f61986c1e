/- The walk of arborlaw08.SessionNils. No condition but that the session is one. -/
import Derived.Test.YtfnigjeklcagnaaGreatDoorNils
import Derived.Test.YtfnigjeklcagnaaGreatDoorLive9
import Derived.Test.YtfnigjeklcagnaaGreatDoorRefC
namespace Go.Proofs.YtfnigjeklcagnaaGreatDoor
open Go.RowKit Go.MapKept Go.Maps
theorem newClock_two (tick : Int) : ∃ ee : Int, (ee = 0 ∨ ee = 1) ∧ (∀ W : World, Calls Tryz.prog 9 #[.int .i64 tick] W fun e w' => ∃ pc, e = .returned (.tuple #[.pointer pc, .int .i64 ee]) ∧ (pc = none ↔ ee = 1) ∧ Below W.heap.size W w') ∧ (∀ W : World, Calls Tryz.prog 15 #[.int .i64 tick] W fun e w' => ∃ pc, e = .returned (.tuple #[.pointer pc, .int .i64 ee]) ∧ (pc = none ↔ ee = 1) ∧ Below W.heap.size W w') := by
  by_cases ht : 1 ≤ tick ∧ tick ≤ 1099511627776
  · refine ⟨0, .inl rfl, fun W => (newClock_any tick W).mono ?_, fun W => (refNew_any tick W).mono ?_⟩
    all_goals (
      rintro e w' ⟨h, hb⟩
      rw [if_pos ht] at h
      obtain ⟨bc, own, rfl, _⟩ := h
      exact ⟨_, rfl, by simp, hb⟩)
  · refine ⟨1, .inr rfl, fun W => (newClock_any tick W).mono ?_, fun W => (refNew_any tick W).mono ?_⟩
    all_goals (
      rintro e w' ⟨h, hb⟩
      rw [if_neg ht] at h
      subst h
      exact ⟨_, rfl, by simp, hb⟩)
set_option maxRecDepth 100000 in
set_option maxHeartbeats 4000000 in
theorem sessionNils_any (i to : Int) (A : Option Addr) (n c : Nat) (now tick : Int) (w : World) :
    Calls Tryz.prog 7 #[.agg #[.int .i64 i, .int .i32 to, .slice A n c], .int .i64 now, .int .i64 tick] w fun e w' => e = .returned (.bool true) ∧ Below w.heap.size w w' := by
  obtain ⟨ee, hee, hN, hRN⟩ := newClock_two tick
  have HEE := Lib.hid hee; have HN := Lib.hid hN; have HRN := Lib.hid hRN
  clear hee hN hRN
  have HBX := Lib.hid (show Below w.heap.size w (w.alloc (.cells #[.int .i64 i, .int .i32 to, .slice A n c] 56)) from (Below.refl _ w).alloc (Nat.le_refl _) _)
  have y0 : (w.alloc (.cells #[.int .i64 i, .int .i32 to, .slice A n c] 56)).cell? ⟨w.heap.size, 0, none⟩ = some (.int .i64 i) := by simp
  have y1 : (w.alloc (.cells #[.int .i64 i, .int .i32 to, .slice A n c] 56)).cell? ⟨w.heap.size, 1, none⟩ = some (.int .i32 to) := by simp
  have y2 : (w.alloc (.cells #[.int .i64 i, .int .i32 to, .slice A n c] 56)).cell? ⟨w.heap.size, 2, none⟩ = some (.slice A n c) := by simp
  go_enter Tryz.func7, Tryz.ntmps7
  go_wp2_with fail
  go_at_call 33
  refine (tGetNil i _).mono ?_
  rintro e W1 ⟨rfl, hb⟩
  have y0 := keep1 y0 hb
  have y1 := keep1 y1 hb
  have y2 := keep1 y2 hb
  have HBX := Lib.hid (HBX.out.trans (hb.mono HBX.out.size))
  clear hb
  have hlt := World.block_lt_of_cell? _ _ y0
  have hb : Below W1.heap.size W1 (W1.alloc (.cells #[.int .i64 0, .int .i32 0, .slice none 0 0] 56)) := (Below.refl _ W1).alloc (Nat.le_refl _) _
  have y0 := keep1 y0 hb; have y1 := keep1 y1 hb; have y2 := keep1 y2 hb
  have z0 : (W1.alloc (.cells #[.int .i64 0, .int .i32 0, .slice none 0 0] 56)).cell? ⟨W1.heap.size, 0, none⟩ = some (.int .i64 0) := by simp
  have HBX := Lib.hid (HBX.out.trans (hb.mono HBX.out.size))
  clear hb
  go_wp2_with fail
  go_at_call 14
  refine (cDeadNil i _).mono ?_
  rintro e W2 ⟨rfl, hb⟩
  have y0 := keep1 y0 hb
  have y1 := keep1 y1 hb
  have y2 := keep1 y2 hb
  have z0 := keep1 z0 hb
  have HBX := Lib.hid (HBX.out.trans (hb.mono HBX.out.size))
  clear hb
  go_wp2_with fail
  go_at_call 22
  refine (cNextNil _).mono ?_
  rintro e W3 ⟨rfl, hb⟩
  have y0 := keep1 y0 hb
  have y1 := keep1 y1 hb
  have y2 := keep1 y2 hb
  have z0 := keep1 z0 hb
  have HBX := Lib.hid (HBX.out.trans (hb.mono HBX.out.size))
  clear hb
  go_wp2_with fail
  go_at_call 9
  refine (HN.out _).mono ?_
  rintro e W4 ⟨pc, rfl, hpc, hb⟩
  have y0 := keep1 y0 hb
  have y1 := keep1 y1 hb
  have y2 := keep1 y2 hb
  have z0 := keep1 z0 hb
  have HBX := Lib.hid (HBX.out.trans (hb.mono HBX.out.size))
  clear hb
  have HPC := Lib.hid hpc; clear hpc
  go_wp2_with fail
  go_at_call 15
  refine (HRN.out _).mono ?_
  rintro e W5 ⟨pd, rfl, hpd, hb⟩
  have y0 := keep1 y0 hb
  have y1 := keep1 y1 hb
  have y2 := keep1 y2 hb
  have z0 := keep1 z0 hb
  have HBX := Lib.hid (HBX.out.trans (hb.mono HBX.out.size))
  clear hb
  clear hpd
  go_wp2_with fail
  go_at_call 26
  refine (tOpenNil i to A n c _).mono ?_
  rintro e W6 ⟨rfl, hb⟩
  have y0 := keep1 y0 hb
  have y1 := keep1 y1 hb
  have y2 := keep1 y2 hb
  have z0 := keep1 z0 hb
  have HBX := Lib.hid (HBX.out.trans (hb.mono HBX.out.size))
  clear hb
  go_wp2_with fail
  go_at_call 16
  refine (no8_any _ _).mono ?_
  rintro e w' ⟨rfl, rfl⟩
  go_wp2_with fail
  go_at_call 32
  refine (tCloseNil i _).mono ?_
  rintro e W8 ⟨rfl, hb⟩
  have y0 := keep1 y0 hb
  have y1 := keep1 y1 hb
  have y2 := keep1 y2 hb
  have z0 := keep1 z0 hb
  have HBX := Lib.hid (HBX.out.trans (hb.mono HBX.out.size))
  clear hb
  go_wp2_with fail
  go_at_call 16
  refine (no8_any _ _).mono ?_
  rintro e w' ⟨rfl, rfl⟩
  go_wp2_with fail
  go_at_call 30
  refine (tListNil _).mono ?_
  rintro e W10 ⟨rfl, hb⟩
  have y0 := keep1 y0 hb
  have y1 := keep1 y1 hb
  have y2 := keep1 y2 hb
  have z0 := keep1 z0 hb
  have HBX := Lib.hid (HBX.out.trans (hb.mono HBX.out.size))
  clear hb
  go_wp2_with fail
  go_at_call 31
  refine (tLenNil _).mono ?_
  rintro e W11 ⟨rfl, hb⟩
  have y0 := keep1 y0 hb
  have y1 := keep1 y1 hb
  have y2 := keep1 y2 hb
  have z0 := keep1 z0 hb
  have HBX := Lib.hid (HBX.out.trans (hb.mono HBX.out.size))
  clear hb
  go_wp2_with fail
  go_at_call 38
  refine (tCloneNil _).mono ?_
  rintro e W12 ⟨rfl, hb⟩
  have y0 := keep1 y0 hb
  have y1 := keep1 y1 hb
  have y2 := keep1 y2 hb
  have z0 := keep1 z0 hb
  have HBX := Lib.hid (HBX.out.trans (hb.mono HBX.out.size))
  clear hb
  go_wp2_with fail
  go_at_call 28
  refine (tEqNilNil _).mono ?_
  rintro e W13 ⟨rfl, hb⟩
  have y0 := keep1 y0 hb
  have y1 := keep1 y1 hb
  have y2 := keep1 y2 hb
  have z0 := keep1 z0 hb
  have HBX := Lib.hid (HBX.out.trans (hb.mono HBX.out.size))
  clear hb
  go_wp2_with fail
  go_at_call 25
  refine (newTab _).mono ?_
  rintro e W14 ⟨⟨bt, bm, rfl, _, _, _⟩, hb⟩
  have y0 := keep1 y0 hb
  have y1 := keep1 y1 hb
  have y2 := keep1 y2 hb
  have z0 := keep1 z0 hb
  have HBX := Lib.hid (HBX.out.trans (hb.mono HBX.out.size))
  clear hb
  go_wp2_with fail
  go_at_call 28
  refine (tEqNil _ _).mono ?_
  rintro e W15 ⟨rfl, hb⟩
  have y0 := keep1 y0 hb
  have y1 := keep1 y1 hb
  have y2 := keep1 y2 hb
  have z0 := keep1 z0 hb
  have HBX := Lib.hid (HBX.out.trans (hb.mono HBX.out.size))
  clear hb
  go_wp2_with fail
  go_at_call 10
  refine (cTouchNil i 5 now _).mono ?_
  rintro e W16 ⟨rfl, hb⟩
  have y0 := keep1 y0 hb
  have y1 := keep1 y1 hb
  have y2 := keep1 y2 hb
  have z0 := keep1 z0 hb
  have HBX := Lib.hid (HBX.out.trans (hb.mono HBX.out.size))
  clear hb
  go_wp2_with fail
  go_at_call 16
  refine (no8_any _ _).mono ?_
  rintro e w' ⟨rfl, rfl⟩
  go_wp2_with fail
  go_at_call 11
  refine (cDropNil i _).mono ?_
  rintro e W18 ⟨rfl, hb⟩
  have y0 := keep1 y0 hb
  have y1 := keep1 y1 hb
  have y2 := keep1 y2 hb
  have z0 := keep1 z0 hb
  have HBX := Lib.hid (HBX.out.trans (hb.mono HBX.out.size))
  clear hb
  go_wp2_with fail
  go_at_call 13
  refine (cExpNil now _).mono ?_
  rintro e W19 ⟨rfl, hb⟩
  have y0 := keep1 y0 hb
  have y1 := keep1 y1 hb
  have y2 := keep1 y2 hb
  have z0 := keep1 z0 hb
  have HBX := Lib.hid (HBX.out.trans (hb.mono HBX.out.size))
  clear hb
  go_wp2_with fail
  go_at_call 24
  refine (cLenNil _).mono ?_
  rintro e W20 ⟨rfl, hb⟩
  have y0 := keep1 y0 hb
  have y1 := keep1 y1 hb
  have y2 := keep1 y2 hb
  have z0 := keep1 z0 hb
  have HBX := Lib.hid (HBX.out.trans (hb.mono HBX.out.size))
  clear hb
  go_wp2_with fail
  go_at_call 16
  refine (no8_any _ _).mono ?_
  rintro e w' ⟨rfl, rfl⟩
  rcases HEE.out with rfl | rfl
  · cases pc with
    | none => exact absurd (HPC.out.1 rfl) (by decide)
    | some a =>
      go_wp2_with fail
      refine (live8_any _).mono ?_
      rintro e W9 ⟨rfl, hb⟩
      have HBX := Lib.hid (HBX.out.trans (hb.mono HBX.out.size))
      go_wp2_with fail
      go_ret
      exact ⟨rfl, HBX.out⟩
  · cases pc with
    | some a => exact absurd (HPC.out.2 rfl) (by simp)
    | none =>
      go_wp2_with fail
      refine (live8_any _).mono ?_
      rintro e W9 ⟨rfl, hb⟩
      have HBX := Lib.hid (HBX.out.trans (hb.mono HBX.out.size))
      go_wp2_with fail
      go_ret
      exact ⟨rfl, HBX.out⟩
end Go.Proofs.YtfnigjeklcagnaaGreatDoor

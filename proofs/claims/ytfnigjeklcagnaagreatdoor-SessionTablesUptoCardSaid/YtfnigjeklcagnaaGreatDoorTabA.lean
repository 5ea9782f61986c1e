/- The walk of the law's sameAll at lists of sessions. Condition: texts shorter than 2^20. -/
import Derived.Test.YtfnigjeklcagnaaGreatDoorTabS
import Derived.Test.YtfnigjeklcagnaaGreatDoorTabC
import Derived.Deep.RegionWith
import Derived.Lib.QuietBelow
namespace Go.Proofs.YtfnigjeklcagnaaGreatDoor
open Go.RowKit Go.MapKept
/-- the slice reads these sessions -/
def SlS (w : World) (A : Option Addr) (n : Nat) (Z : List EntV) : Prop := Z.length = n ∧ ∀ j, j < n → (∃ b off, A = some ⟨b, off, none⟩ ∧ w.cell? ⟨b, off + j * 3, none⟩ = some (.int .i64 Z[j]!.1.1) ∧ w.cell? ⟨b, off + j * 3 + 1, none⟩ = some (.int .i32 Z[j]!.1.2.1) ∧ w.cell? ⟨b, off + j * 3 + 2, none⟩ = some (.slice Z[j]!.1.2.2.1 Z[j]!.1.2.2.2.1 Z[j]!.1.2.2.2.2)) ∧
  Sl w w.heap.size encId 2 Z[j]!.1.2.2.1 Z[j]!.1.2.2.2.1 Z[j]!.2 ∧ Z[j]!.1.2.2.2.1 ≤ 1048576
theorem SlS.below {w w' : World} {A : Option Addr} {n : Nat} {Z : List EntV} (h : SlS w A n Z) (hb : Below w.heap.size w w') : SlS w' A n Z :=
  ⟨h.1, fun j hj => by
    obtain ⟨⟨b, off, e, x0, x1, x2⟩, h2, h3⟩ := h.2 j hj
    exact ⟨⟨b, off, e, keep1 x0 hb, keep1 x1 hb, keep1 x2 hb⟩, h2.belowMore hb hb.size, h3⟩⟩
def SaR (Z1 Z2 : List EntV) (n : Nat) (w : World) (i : Value) (wr : World) : Prop := ∃ k : Nat, i = .int .i64 ↑k ∧ k ≤ n ∧ (∀ j, j < k → toP Z1[j]! = toP Z2[j]!) ∧ Below w.heap.size w wr
open Classical in
set_option maxRecDepth 100000 in
set_option maxHeartbeats 2000000 in
theorem sameAll_any (A A2 : Option Addr) (n m c c2 : Nat) (Z1 Z2 : List EntV) (w : World) (hx : SlS w A n Z1) (hy : SlS w A2 m Z2) (hn : n ≤ 281474976710656) :
    Calls Tryz.prog 29 #[.slice A n c, .slice A2 m c2] w (RetB w (decide (Z1.map toP = Z2.map toP))) := by
  obtain ⟨bb, HBB⟩ : ∃ bb, Hid (decide (Z1.map toP = Z2.map toP) = bb) := ⟨_, Lib.hid rfl⟩
  rw [HBB.out]
  by_cases hnm : n = m
  · subst hnm
    have HX := Lib.hid hx; have HY := Lib.hid hy
    clear hx hy
    go_enter Tryz.func29, Tryz.ntmps29
    go_wp2_with fail
    go_loopw [5] (fun i wr => SaR Z1 Z2 n w i wr) (fun i _ => n - (RowKit.intOf i).toNat)
    case atStart => exact ⟨0, rfl, Nat.zero_le _, fun j hj => absurd hj (by omega), Below.refl _ _⟩
    case round =>
      obtain ⟨k, rfl, hk, hall, hb⟩ := hrel
      have HA := Lib.hid hall; have HB := Lib.hid hb
      clear hall hb
      by_cases hlt : k < n
      · obtain ⟨⟨b, off, hA, x0, x1, x2⟩, hs1, hl1⟩ := (HX.out.below HB.out).2 k hlt
        obtain ⟨⟨b', off', hA', y0, y1, y2⟩, hs2, hl2⟩ := (HY.out.below HB.out).2 k hlt
        have hk2 : ((k : Nat) : Int) < (n : Int) := by omega
        have HXY := Lib.hid (And.intro HX HY)
        subst hA hA'
        clear HX HY
        have HI := Lib.hid (show toP Z1[k]! = toP Z2[k]! → ∀ j, j < k + 1 → toP Z1[j]! = toP Z2[j]! from fun h1 j hj => by rcases Nat.lt_succ_iff_lt_or_eq.1 hj with h | rfl; exact HA.out j h; exact h1)
        have HJ := Lib.hid (show Z1.map toP = Z2.map toP → toP Z1[k]! = toP Z2[k]! from fun h => by
          have l1 := HXY.out.1.out.1; have l2 := HXY.out.2.out.1
          have := congrArg (fun q => q[k]?) h
          simp only [List.getElem?_map] at this
          rw [List.getElem?_eq_getElem (by omega), List.getElem?_eq_getElem (by omega)] at this
          rw [getElem!_pos Z1 k (by omega), getElem!_pos Z2 k (by omega)]
          simpa using this)
        generalize Z1[k]! = z1 at *
        generalize Z2[k]! = z2 at *
        obtain ⟨⟨i, tm, A3, n3, c3⟩, l⟩ := z1
        obtain ⟨⟨i', tm', A4, n4, c4⟩, l'⟩ := z2
        dsimp only at x0 x1 x2 y0 y1 y2 hs1 hs2 hl1 hl2
        cases hdd : decide ((i, tm, l) = (i', tm', l'))
        case true =>
          have CL := Lib.hid (fun (d : Nat) (os : Array Obj) => by
            have h := Calls.regrown_of (sameSes_any i tm A3 n3 c3 l i' tm' A4 n4 c4 l' (Go.Sort.grow (redrawn wr d) os) (hs1.belowMore (below_regrown wr d os) (below_regrown wr d os).size) (hs2.belowMore (below_regrown wr d os) (below_regrown wr d os).size) hl1)
            rw [hdd] at h
            exact h)
          have HDD := Lib.hid hdd
          have D0 := fun d os => cell_regrown x0 d os
          have D1 := fun d os => cell_regrown x1 d os
          have D2 := fun d os => cell_regrown x2 d os
          have E0 := fun d os => cell_regrown y0 d os
          have E1 := fun d os => cell_regrown y1 d os
          have E2 := fun d os => cell_regrown y2 d os
          clear x0 x1 x2 y0 y1 y2 hs1 hs2 hdd
          go_wp2_with fail
          refine wp_region_quiet_below (by kernel_rfl) (by kernel_rfl) ?_
          repeat (go_big_quiet_step ((exact CL.out _ _)))
          refine wpQuiet_nil ?_
          intro _ hw'
          obtain ⟨⟨dq, osq⟩, hw''⟩ := hw'
          subst hw''
          have HBF := Lib.hid (HB.out.trans ((below_regrown wr dq osq).mono HB.out.size))
          clear D0 D1 D2 E0 E1 E2
          have HI2 := Lib.hid (HI.out (of_decide_eq_true HDD.out))
          go_wp2_with fail
          go_roundw
          case rel => exact ⟨k + 1, by go_num, by omega, HI2.out, HBF.out⟩
          case measure => simp [RowKit.intOf]; omega
        case false =>
          have CL := Lib.hid (fun (d : Nat) (os : Array Obj) => by
            have h := Calls.regrown_of (sameSes_any i tm A3 n3 c3 l i' tm' A4 n4 c4 l' (Go.Sort.grow (redrawn wr d) os) (hs1.belowMore (below_regrown wr d os) (below_regrown wr d os).size) (hs2.belowMore (below_regrown wr d os) (below_regrown wr d os).size) hl1)
            rw [hdd] at h
            exact h)
          have HDD := Lib.hid hdd
          have D0 := fun d os => cell_regrown x0 d os
          have D1 := fun d os => cell_regrown x1 d os
          have D2 := fun d os => cell_regrown x2 d os
          have E0 := fun d os => cell_regrown y0 d os
          have E1 := fun d os => cell_regrown y1 d os
          have E2 := fun d os => cell_regrown y2 d os
          clear x0 x1 x2 y0 y1 y2 hs1 hs2 hdd
          go_wp2_with fail
          refine wp_region_quiet_below (by kernel_rfl) (by kernel_rfl) ?_
          repeat (go_big_quiet_step ((exact CL.out _ _)))
          refine wpQuiet_nil ?_
          intro _ hw'
          obtain ⟨⟨dq, osq⟩, hw''⟩ := hw'
          subst hw''
          have HBF := Lib.hid (HB.out.trans ((below_regrown wr dq osq).mono HB.out.size))
          clear D0 D1 D2 E0 E1 E2
          have HE := Lib.hid (show decide (Z1.map toP = Z2.map toP) = false from decide_eq_false fun e => of_decide_eq_false HDD.out (HJ.out e))
          go_wp2_with fail
          go_ret
          exact RetB.mk HBF.out (HE.out.symm.trans HBB.out)
      · have hk2 : ¬ ((k : Nat) : Int) < (n : Int) := by omega
        have HT := Lib.hid (show decide (Z1.map toP = Z2.map toP) = true from decide_eq_true (by
          have l1 := HX.out.1; have l2 := HY.out.1
          refine List.ext_getElem (by simp; omega) fun j h1 h2 => ?_
          rw [List.length_map] at h1 h2
          have := HA.out j (by omega)
          rw [getElem!_pos Z1 j h1, getElem!_pos Z2 j h2] at this
          simpa using this))
        go_wp2_with fail
        go_ret
        exact RetB.mk HB.out (HT.out.symm.trans HBB.out)
  · have HE := Lib.hid (show decide (Z1.map toP = Z2.map toP) = false from decide_eq_false fun e => hnm (by
      have := congrArg List.length e
      rw [List.length_map, List.length_map, hx.1, hy.1] at this
      exact this))
    have hd : ((n : Int) != (m : Int)) = true := bne_iff_ne.2 (by omega)
    clear hnm
    go_enter Tryz.func29, Tryz.ntmps29
    go_wp2_with fail
    go_ret
    exact RetB.mk (Below.refl _ _) (HE.out.symm.trans HBB.out)
end Go.Proofs.YtfnigjeklcagnaaGreatDoor

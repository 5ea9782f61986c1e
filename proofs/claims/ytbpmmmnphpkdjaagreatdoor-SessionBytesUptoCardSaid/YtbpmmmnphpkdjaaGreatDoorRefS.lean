/- The walks of the document's Ids and Right at sessions. Condition: texts shorter than 2^20. -/
import Derived.Test.YtbpmmmnphpkdjaaGreatDoorSesR
import Derived.Test.YtbpmmmnphpkdjaaGreatDoorRefA6
namespace Go.Proofs.YtbpmmmnphpkdjaaGreatDoor
open Go.RowKit
def RiR (l : List IdV) (n : Nat) (w : World) (i : Value) (wr : World) : Prop := ∃ k : Nat, i = .int .i64 ↑k ∧ k ≤ n ∧ (∀ j, j < k → identP l[j]! = true ∧ (l.take j).any (fun y => decide (y = l[j]!)) = false) ∧ Below w.heap.size w wr
def RjR (l : List IdV) (k : Nat) (w1 : World) (i : Value) (wr : World) : Prop := ∃ (j q : Nat), i = .int .i64 ↑j ∧ j ≤ k ∧ (∀ a, a < j → l[a]! ≠ l[k]!) ∧ wr = w1.drewN q
set_option maxRecDepth 100000 in
set_option maxHeartbeats 2000000 in
theorem refIds_any (A : Option Addr) (n c : Nat) (l : List IdV) (w : World) (hz : Sl w w.heap.size encId 2 A n l) (hn : n ≤ 1048576) (hs : SmallI l n 1048576) : Calls Tryz.prog 85 #[.slice A n c] w (RtPost l w) := by
  have HZ := Lib.hid hz; have HS := Lib.hid hs; have HL := Lib.hid hz.len
  clear hz hs
  go_enter Tryz.func85, Tryz.ntmps85
  go_wp2_with fail
  go_loopw [3] (fun i wr => RiR l n w i wr) (fun i _ => n - (RowKit.intOf i).toNat)
  case atStart => exact ⟨0, rfl, Nat.zero_le _, fun j hj => absurd hj (by omega), Below.refl _ _⟩
  case round =>
    obtain ⟨k, rfl, hk, hall, hb⟩ := hrel
    have HA := Lib.hid hall; have HB := Lib.hid hb
    clear hall hb
    by_cases hkn : k < n
    · have hkn2 : ((k : Nat) : Int) < (n : Int) := by omega
      obtain ⟨b, off, hA, hbl, x0, x1⟩ := SlId.at_ (HZ.out.below HB.out) hkn
      have HSM := Lib.hid (HS.out k hkn)
      have HI := Lib.hid (show identP l[k]! = true → (l.take k).any (fun y => decide (y = l[k]!)) = false → ∀ j, j < k + 1 → identP l[j]! = true ∧ (l.take j).any (fun y => decide (y = l[j]!)) = false from fun h1 h2 j hj => by rcases Nat.lt_succ_iff_lt_or_eq.1 hj with h | rfl; exact HA.out j h; exact ⟨h1, h2⟩)
      have HJ := Lib.hid (show idsOk l → identP l[k]! = true ∧ (l.take k).any (fun y => decide (y = l[k]!)) = false from fun h => h k (by rw [HL.out]; exact hkn))
      subst hA
      obtain ⟨zk, hzk⟩ : ∃ z, l[k]! = z := ⟨_, rfl⟩
      have HZK := Lib.hid hzk
      rw [hzk] at x0 x1
      clear hzk
      obtain ⟨s, t⟩ := zk
      have HSM2 := Lib.hid (show s.size ≤ 1048576 ∧ t.size ≤ 1048576 by have := HSM.out; rw [HZK.out] at this; exact this)
      have cI := refIdent_any s t (Nat.le_trans HSM2.out.2 (by decide)) wr
      cases hid : identP (s, t) with
      | false =>
        have HF := Lib.hid (show ¬ idsOk l from fun h => by have := (HJ.out h).1; rw [HZK.out, hid] at this; cases this)
        rw [hid] at cI
        clear hid
        go_wp2_with fail
        refine cI.mono ?_
        rintro e w5 ⟨rfl, hb5⟩
        have HB5 := Lib.hid (HB.out.trans (hb5.mono HB.out.size))
        clear hb5
        go_wp2_with fail
        go_ret
        exact ⟨⟨false, rfl, by simp [HF.out]⟩, HB5.out⟩
      | true =>
        have HID := Lib.hid hid
        rw [hid] at cI
        clear hid
        go_wp2_with fail
        refine cI.mono ?_
        rintro e w5 ⟨rfl, hb5⟩
        have HB5 := Lib.hid (HB.out.trans (hb5.mono HB.out.size))
        clear hb5 x0 x1 cI
        go_wp2_with fail
        go_loopw [4] (fun i wr => RjR l k w5 i wr) (fun i _ => k - (RowKit.intOf i).toNat)
        case atStart => exact ⟨0, 0, rfl, Nat.zero_le _, fun a ha => absurd ha (by omega), rfl⟩
        case round =>
          obtain ⟨j, q, rfl, hj, hne, rfl⟩ := hrel
          have HNE := Lib.hid hne
          clear hne
          by_cases hjk : j < k
          · have hjk2 : ((j : Nat) : Int) < (k : Int) := by omega
            have hjn : ((j : Nat) : Int) < (n : Int) := by omega
            obtain ⟨b2, off2, hA2, _, p0, p1⟩ := SlId.at_ (HZ.out.below HB5.out) (show j < n by omega)
            obtain ⟨b3, off3, hA3, _, r0, r1⟩ := SlId.at_ (HZ.out.below HB5.out) hkn
            injection hA2 with hA2
            injection hA2 with hA4 hA5
            subst hA4 hA5
            injection hA3 with hA3
            injection hA3 with hA4 hA5
            subst hA4 hA5
            rw [HZK.out] at r0 r1
            obtain ⟨zj, hzj⟩ : ∃ z, l[j]! = z := ⟨_, rfl⟩
            have HZJ := Lib.hid hzj
            rw [hzj] at p0 p1
            clear hzj
            obtain ⟨s', t'⟩ := zj
            cases hd : decide ((s', t') = (s, t)) with
            | true =>
              have HF := Lib.hid (show ¬ idsOk l from fun h => by
                have h2 := (HJ.out h).2
                rw [List.any_eq_false] at h2
                have hll := HL.out
                refine h2 l[j]! ?_ (by rw [HZJ.out, HZK.out]; exact hd)
                rw [getElem!_pos l j (by omega)]
                exact List.mem_take_iff_getElem.2 ⟨j, by omega, rfl⟩)
              have hq := fun w : World => (eqId w s' t' s t).trans (by rw [hd] : _ = Result.ok (.bool true) w)
              clear hd
              go_wp2_with fail
              go_quiet (fail)
              go_wp2_with fail
              go_ret
              exact ⟨⟨false, rfl, by simp [HF.out]⟩, drewN_below (drewN_below HB5.out q) nq⟩
            | false =>
              have HN2 := Lib.hid (show ∀ a, a < j + 1 → l[a]! ≠ l[k]! from fun a ha => by
                rcases Nat.lt_succ_iff_lt_or_eq.1 ha with h | rfl
                · exact HNE.out a h
                · rw [HZJ.out, HZK.out]; exact of_decide_eq_false hd)
              have hq := fun w : World => (eqId w s' t' s t).trans (by rw [hd] : _ = Result.ok (.bool false) w)
              clear hd
              go_wp2_with fail
              go_quiet (fail)
              go_wp2_with fail
              go_roundw
              case rel => exact ⟨j + 1, q + nq, by go_num, by omega, HN2.out, by first | rfl | rw [World.drewN_drewN]⟩
              case measure => simp [RowKit.intOf]; omega
          · have hjk2 : ¬ ((j : Nat) : Int) < (k : Int) := by omega
            have HANY := Lib.hid (show (l.take k).any (fun y => decide (y = l[k]!)) = false by
              rw [List.any_eq_false]
              intro y hy
              obtain ⟨a, ha, e⟩ := List.mem_take_iff_getElem.1 hy
              have h2 := HNE.out a (by omega)
              rw [getElem!_pos l a (by omega), e] at h2
              simpa using h2)
            have HI2 := Lib.hid (HI.out (by rw [HZK.out]; exact HID.out) HANY.out)
            go_wp2_with fail
            go_roundw
            case rel => exact ⟨k + 1, by go_num, by omega, HI2.out, drewN_below HB5.out q⟩
            case measure => simp [RowKit.intOf]; omega
    · have hkn2 : ¬ ((k : Nat) : Int) < (n : Int) := by omega
      have HT := Lib.hid (show idsOk l from fun j hj => HA.out j (by rw [HL.out] at hj; omega))
      go_wp2_with fail
      go_ret
      exact ⟨⟨true, rfl, by simp [HT.out]⟩, HB.out⟩
open Classical in
set_option maxRecDepth 100000 in
set_option maxHeartbeats 2000000 in
theorem refRightS_any (i tm : Int) (A : Option Addr) (n c : Nat) (l : List IdV) (w : World) (h : SesOk w (i, tm, A, n, c) l 1048576) : Calls Tryz.prog 45 #[.agg #[.int .i64 i, .int .i32 tm, .slice A n c]] w (RetB w (decide (rightS (i, tm, l)))) := by
  obtain ⟨_, h2, h3, h4, h5, h6⟩ := h
  have hl : l.length = n := h3.len
  have hb0 : Below w.heap.size w (w.alloc (.cells #[.int .i64 i, .int .i32 tm, .slice A n c] 47)) := (Below.refl _ w).alloc (Nat.le_refl _) _
  obtain ⟨bb, HBB⟩ : ∃ bb, Hid (decide (rightS (i, tm, l)) = bb) := ⟨_, Lib.hid rfl⟩
  rw [HBB.out]
  have HB := Lib.hid hb0
  by_cases hr : 0 < i ∧ 4 ≤ tm ∧ tm ≤ 1048576 ∧ n ≤ 16
  · obtain ⟨r1, r2, r3, r4⟩ := hr
    have r5 : (n : Int) ≤ 16 := by omega
    have cI := refIds_any A n c l _ (h3.belowMore hb0 hb0.size) h5 h6
    have HRI := Lib.hid (show rightS (i, tm, l) ↔ idsOk l by
      show (0 < i ∧ 4 ≤ tm ∧ tm ≤ 1048576 ∧ l.length ≤ 16 ∧ idsOk l) ↔ idsOk l
      rw [hl]
      exact ⟨fun h => h.2.2.2.2, fun h => ⟨r1, r2, r3, r4, h⟩⟩)
    clear hb0 h3 h4 h6
    go_enter Tryz.func45, Tryz.ntmps45
    go_wp2_with fail
    refine cI.mono ?_
    rintro e w5 ⟨⟨b, rfl, hb⟩, hb5⟩
    have HB5 := Lib.hid (HB.out.trans (hb5.mono HB.out.size))
    have HE := Lib.hid (show b = bb by rw [← HBB.out, Bool.eq_iff_iff, decide_eq_true_iff, HRI.out]; exact hb)
    clear hb hb5
    cases b
    all_goals (
      go_wp2_with fail
      go_ret
      exact RetB.mk HB5.out HE.out)
  · have HE := Lib.hid (show false = bb by
      rw [← HBB.out, eq_comm, decide_eq_false_iff_not]
      rintro ⟨a1, a2, a3, a4, _⟩
      exact hr ⟨a1, a2, a3, by rw [← hl]; exact a4⟩)
    have hc : ¬ 0 < i ∨ (0 < i ∧ ¬ 4 ≤ tm) ∨ (0 < i ∧ 4 ≤ tm ∧ ¬ tm ≤ 1048576) ∨ (0 < i ∧ 4 ≤ tm ∧ tm ≤ 1048576 ∧ ¬ (n : Int) ≤ 16) := by
      by_cases a1 : 0 < i
      · by_cases a2 : 4 ≤ tm
        · by_cases a3 : tm ≤ 1048576
          · exact .inr (.inr (.inr ⟨a1, a2, a3, fun a4 => hr ⟨a1, a2, a3, by omega⟩⟩))
          · exact .inr (.inr (.inl ⟨a1, a2, a3⟩))
        · exact .inr (.inl ⟨a1, a2⟩)
      · exact .inl a1
    clear hr hb0 h3 h4 h6 hl
    rcases hc with a1 | ⟨a1, a2⟩ | ⟨a1, a2, a3⟩ | ⟨a1, a2, a3, a4⟩
    all_goals (
      go_enter Tryz.func45, Tryz.ntmps45
      go_wp2_with fail
      go_ret
      exact RetB.mk HB.out HE.out)
end Go.Proofs.YtbpmmmnphpkdjaaGreatDoor

/- A session as bytes: the walks that write it and read it. Condition: at most 2^20 bytes, texts of at most 2^20 bytes. -/
import Derived.Test.YtbpmmmnphpkdjaaGreatDoorJutV8
import Derived.Test.YtbpmmmnphpkdjaaGreatDoorOpenS
import Derived.Test.YtbpmmmnphpkdjaaGreatDoorSesR
namespace Go.Proofs.YtbpmmmnphpkdjaaGreatDoor
open Go.RowKit Go.MapKept Go.Maps
set_option maxHeartbeats 1000000 in
theorem sameBytes9_any (A A' : Option Addr) (n m c c' : Nat) (xs ys : List UInt8) (w : World) (B : Nat) (hx : Sl w B enc8 1 A n xs) (hy : Sl w B enc8 1 A' m ys) (hn : n ≤ 281474976710656) (hm : m ≤ 281474976710656) :
    Calls Tryz.prog 48 #[.slice A n c, .slice A' m c'] w (QuietB w (decide (xs = ys))) := by
  by_cases hnm : n = m
  · subst hnm
    have hlen : xs.length = ys.length := hx.1.trans hy.1.symm
    have HL := Lib.hid hlen; have HXL := Lib.hid hx.1; clear hlen
    go_enter Tryz.func48, Tryz.ntmps48
    go_wp2
    go_loopw [5] (fun i wr => ∃ (k q : Nat), i = .int .i64 ↑k ∧ k ≤ n ∧ (∀ j, j < k → xs[j]! = ys[j]!) ∧ wr = w.drewN q) (fun i _ => n - (intOf i).toNat)
    case atStart => exact ⟨0, 0, rfl, by omega, fun j hj => absurd hj (by omega), rfl⟩
    case round =>
      obtain ⟨k, q, rfl, hk, hall, rfl⟩ := hrel
      have HA := Lib.hid hall; clear hall
      by_cases hlt : k < n
      · obtain ⟨b, off, rfl, _, x0⟩ := hx.at8 hlt
        obtain ⟨b', off', rfl, _, y0⟩ := hy.at8 hlt
        by_cases he : xs[k]! = ys[k]!
        · have HA1 := Lib.hid (show ∀ j, j < k + 1 → xs[j]! = ys[j]! from fun j hj => by rcases Nat.lt_succ_iff_lt_or_eq.1 hj with h | rfl; exact HA.out j h; exact he)
          rw [he] at x0
          clear he
          generalize ys[k]! = y at *
          go_wp2
          go_quiet (fail)
          go_wp2
          go_roundw
          case rel => exact ⟨k + 1, q + nq, by go_num, by omega, HA1.out, rfl⟩
          case measure => simp [intOf]; omega
        · have HE := Lib.hid (show decide (xs = ys) = false from decide_eq_false fun e => he (by rw [e]))
          have hd : ((xs[k]!.toNat : Int) != (ys[k]!.toNat : Int)) = true := by
            have : xs[k]!.toNat ≠ ys[k]!.toNat := fun e => he (UInt8.toNat_inj.1 e)
            exact bne_iff_ne.2 (fun e => this (Int.ofNat_inj.1 e))
          clear he
          generalize xs[k]! = x at *
          generalize ys[k]! = y at *
          go_wp2
          go_quiet (fail)
          go_wp2
          go_ret
          exact QuietB.mk ⟨q + nq, World.drewN_drewN ..⟩ HE.out.symm
      · have HE := Lib.hid (show decide (xs = ys) = true from decide_eq_true (list_ext_bang HL.out fun j hj => HA.out j (by have := HXL.out; omega)))
        go_wp2
        go_ret
        exact QuietB.mk ⟨q, rfl⟩ HE.out.symm
  · have HE := Lib.hid (show decide (xs = ys) = false from decide_eq_false fun e => hnm (by rw [← hx.1, ← hy.1, e]))
    have hd : ((n : Int) != (m : Int)) = true := by simp; omega
    clear hnm
    go_enter Tryz.func48, Tryz.ntmps48
    go_wp2
    go_ret
    exact QuietB.mk ⟨0, rfl⟩ HE.out.symm
theorem no8_q (k : Int) (w : World) (q : Nat) : Calls Tryz.prog 54 #[.int .i64 k] (w.drewN q) fun e w' => e = .returned (.int .i64 k) ∧ ∃ n, w' = w.drewN n := by
  go_enter Tryz.func54, Tryz.ntmps54
  go_wp2
  go_ret
  exact ⟨rfl, q, rfl⟩
theorem refClamp_any (t : Int) (w : World) : Calls Tryz.prog 42 #[.int .i32 t] w fun e w' => e = .returned (.int .i32 (min (max t 4) 1048576)) ∧ w = w' := by
  by_cases h1 : t < 4
  · go_enter Tryz.func42, Tryz.ntmps42
    go_wp2_with fail
    go_ret
    exact ⟨congrArg (fun x => Ending.returned (.int .i32 x)) (show (4 : Int) = min (max t 4) 1048576 by omega), rfl⟩
  · by_cases h2 : t > 1048576
    · go_enter Tryz.func42, Tryz.ntmps42
      go_wp2_with fail
      go_ret
      exact ⟨congrArg (fun x => Ending.returned (.int .i32 x)) (show (1048576 : Int) = min (max t 4) 1048576 by omega), rfl⟩
    · go_enter Tryz.func42, Tryz.ntmps42
      go_wp2_with fail
      go_ret
      exact ⟨congrArg (fun x => Ending.returned (.int .i32 x)) (show t = min (max t 4) 1048576 by omega), rfl⟩
/-- a session's bytes -/
def sesB (i tm : Int) (ids : List IdV) : Bs := beB (m64 i) 8 ++ (beB (m32 tm) 4 ++ (beB ids.length 4 ++ ids.flatMap idB))
set_option maxRecDepth 100000 in
theorem sesPut_any (wb base : Nat) (l : Bs) (i tm : Int) (A : Option Addr) (n c : Nat) (zs : List IdV) (w : World) (h : WrB w wb base l) (hz : Sl w base encId 2 A n zs) (hA : ∀ a, A = some a → a.block ≠ wb) (hl : l.length ≤ 1048576) (hn : n ≤ 1048576) (hs : ∀ j, j < n → (zs[j]!.1.size ≤ 1048576 ∧ zs[j]!.2.size ≤ 1048576)) :
    Calls Tryz.prog 47 #[.pointer (some ⟨wb, 0, none⟩), .agg #[.int .i64 i, .int .i32 tm, .slice A n c]] w (WrPost (l ++ sesB i tm zs) wb base w) := by
  have hb1 : Below w.heap.size w (w.alloc (.cells #[.int .i64 i, .int .i32 tm, .slice A n c] 47)) := (Below.refl _ w).alloc (Nat.le_refl _) _
  have hlt : w.heap.size ≠ wb := by have := h.lt; have := h.size; omega
  have HW := Lib.hid (h.below hb1)
  have HK := Lib.hid (Kw.of_below (wb := wb) (base := base) hb1)
  have hg := heap_alloc_new w (.cells #[.int .i64 i, .int .i32 tm, .slice A n c] 47)
  have HG := Lib.hid hg
  have HZ := Lib.hid (hz.keep (w' := w.alloc (.cells #[.int .i64 i, .int .i32 tm, .slice A n c] 47)) fun p hp => hb1.cell (Nat.lt_of_lt_of_le hp h.size))
  have HA := Lib.hid hA; have HS := Lib.hid hs; have HLen := Lib.hid hz.len
  clear h hb1 hg hz hA hs
  go_enter Tryz.func47, Tryz.ntmps47
  go_wp2_with fail
  generalize w.alloc (.cells #[.int .i64 i, .int .i32 tm, .slice A n c] 47) = W at *
  refine (wLong_any wb base l i W HW.out (by omega)).mono ?_
  rintro e w1 ⟨rfl, hw, hk⟩
  have hg1 := hk.heap HG.out (by decide) hlt
  have x1 : w1.cell? ⟨w.heap.size, 1, none⟩ = some (.int .i32 tm) := by rw [cellH hg1]; rfl
  have HG1 := Lib.hid hg1
  have HZ1 := Lib.hid (HZ.out.kw hk HA.out)
  have HW1 := Lib.hid hw; have HK1 := Lib.hid (HK.out.trans hk)
  have HL1 := Lib.hid (show (l ++ beB (m64 i) 8).length ≤ 2097152 by rw [List.length_append, beB_len]; omega)
  clear hw hk hg1 HG HZ
  go_wp2_with fail
  refine (wInt_any wb base (l ++ beB (m64 i) 8) tm w1 HW1.out (Nat.le_trans HL1.out (by decide))).mono ?_
  rintro e w2 ⟨rfl, hw, hk⟩
  have hg2 := hk.heap HG1.out (by decide) hlt
  have x2 : w2.cell? ⟨w.heap.size, 2, none⟩ = some (.slice A n c) := by rw [cellH hg2]; rfl
  have HZ2 := Lib.hid (HZ1.out.kw hk HA.out)
  have HW2 := Lib.hid hw; have HK2 := Lib.hid (HK1.out.trans hk)
  have HL2 := Lib.hid (show (l ++ beB (m64 i) 8 ++ beB (m32 tm) 4).length ≤ 1073741824 by have := HL1.out; rw [List.length_append, beB_len]; omega)
  clear hw hk hg2 HG1 HZ1 x1
  go_wp2_with fail
  refine (aclPutIds_any wb base _ A n c zs w2 HW2.out HZ2.out HA.out HL2.out hn HS.out).mono ?_
  rintro e w3 ⟨rfl, hw, hk⟩
  have HW3 := Lib.hid (show WrB w3 wb base (l ++ sesB i tm zs) by
    unfold sesB; rw [HLen.out]; simpa [List.append_assoc] using hw)
  have HK3 := Lib.hid (HK2.out.trans hk)
  clear hw hk
  go_wp2_with fail
  refine bodyPost_ret (results_none rfl _ _ _) rfl ?_
  exact ⟨rfl, HW3.out, HK3.out⟩
end Go.Proofs.YtbpmmmnphpkdjaaGreatDoor

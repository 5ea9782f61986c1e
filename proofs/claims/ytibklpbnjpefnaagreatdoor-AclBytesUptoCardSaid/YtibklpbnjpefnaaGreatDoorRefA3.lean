/- The walks of arborref06.right, cut, decimal. Condition: a text has at most 2^47 bytes. -/
import Derived.Test.YtibklpbnjpefnaaGreatDoorRefA2
namespace Go.Proofs.YtibklpbnjpefnaaGreatDoor
open Go.RowKit

set_option maxRecDepth 100000 in
set_option maxHeartbeats 4000000 in
theorem refText_any (s : ByteArray) (hs : s.size ≤ 140737488355328) (w : World) :
    Calls Tryz.prog 121 #[.string s] w (SameB w (textOk s)) := by
  have HT := Lib.hid (show textOk s = (decide (1 ≤ s.size) && decide (s.size ≤ 256) && validFrom s 0 && okFrom s 0) from rfl)
  by_cases h0 : s.size = 0
  · have HX : Hid (textOk s = false) := Lib.hid (by rw [HT.out, h0]; rfl)
    have h1 : (s.size : Int) < 1 := by omega
    clear h0
    go_enter Tryz.func121, Tryz.ntmps121
    go_wp2
    go_ret
    exact SameB.mk HX.out.symm
  have h1 : 1 ≤ (s.size : Int) := by omega
  clear h0
  by_cases h2 : 256 < (s.size : Int)
  · have HX : Hid (textOk s = false) := Lib.hid (by rw [HT.out, decide_eq_false (show ¬ s.size ≤ 256 by omega)]; simp)
    go_enter Tryz.func121, Tryz.ntmps121
    go_wp2
    go_ret
    exact SameB.mk HX.out.symm
  have h3 : (s.size : Int) ≤ 256 := by omega
  clear h2
  have cU := fun W => utf8_any s hs W
  cases hv : validFrom s 0 with
  | false =>
    rw [hv] at cU
    have HX : Hid (textOk s = false) := Lib.hid (by rw [HT.out, hv]; simp)
    clear hv
    go_enter Tryz.func121, Tryz.ntmps121
    go_wp2_with fail
    refine (cU _).mono ?_
    rintro e w1 ⟨rfl, rfl⟩
    go_wp2
    go_ret
    exact SameB.mk HX.out.symm
  | true =>
    rw [hv] at cU
    have HX : Hid (textOk s = okFrom s 0) := Lib.hid (by rw [HT.out, hv, decide_eq_true (show 1 ≤ s.size by omega), decide_eq_true (show s.size ≤ 256 by omega)]; simp)
    clear hv
    go_enter Tryz.func121, Tryz.ntmps121
    go_wp2_with fail
    refine (cU _).mono ?_
    rintro e w1 ⟨rfl, rfl⟩
    go_wp2
    go_loop [3] (fun i => ∃ p : Nat, i = .int .i64 ↑p ∧ p ≤ s.size ∧ okFrom s p = okFrom s 0) (fun i => s.size - (intOf i).toNat)
    case atStart => exact ⟨0, rfl, by omega, rfl⟩
    case round =>
      obtain ⟨p, rfl, hp, hF⟩ := hrel
      have HF := Lib.hid hF; clear hF
      by_cases hlt : p < s.size
      · have HS := Lib.hid (okFrom_step s p hlt)
        have HB := Lib.hid (show okB (s.get! p).toNat = okB s[p].toNat by rw [get_bang s p hlt])
        have hi1 : (0 : Int) ≤ (p : Int) ∧ (p : Int) < (s.size : Int) := by omega
        by_cases c1 : (s[p].toNat : Int) < 33
        · have HO : Hid (okFrom s 0 = false) := Lib.hid (by rw [← HF.out, HS.out, HB.out]; unfold okB; rw [decide_eq_false (show ¬ 33 ≤ s[p].toNat by omega)]; rfl)
          go_wp2
          go_ret
          exact SameB.mk (by rw [HX.out, HO.out])
        by_cases c2 : s[p].toNat = 127
        · have HO : Hid (okFrom s 0 = false) := Lib.hid (by rw [← HF.out, HS.out, HB.out, c2]; rfl)
          have c3 : ((s[p].toNat : Int) == 127) = true := by simp [c2]
          clear c2
          go_wp2
          go_ret
          exact SameB.mk (by rw [HX.out, HO.out])
        have d2 : ((s[p].toNat : Int) == 127) = false := by simp; omega
        by_cases c3 : s[p].toNat = 44
        · have HO : Hid (okFrom s 0 = false) := Lib.hid (by rw [← HF.out, HS.out, HB.out, c3]; rfl)
          have c4 : ((s[p].toNat : Int) == 44) = true := by simp [c3]
          clear c2 c3
          go_wp2
          go_ret
          exact SameB.mk (by rw [HX.out, HO.out])
        have d3 : ((s[p].toNat : Int) == 44) = false := by simp; omega
        have HO : Hid (okFrom s (p + 1) = okFrom s 0) := Lib.hid (by rw [← HF.out, HS.out, HB.out]; unfold okB; rw [decide_eq_true (show 33 ≤ s[p].toNat by omega), decide_eq_true c2, decide_eq_true c3]; simp)
        clear c2 c3
        go_wp2
        go_round
        case rel => exact ⟨p + 1, by go_num, by omega, HO.out⟩
        case measure => simp [intOf]; omega
      · go_wp2
        go_ret
        exact SameB.mk (by rw [HX.out, ← HF.out, okFrom_end s p hlt])

def SameI (w : World) (n : Int) (e : Ending) (w' : World) : Prop := e = .returned (.int .i64 n) ∧ w = w'
theorem SameI.mk {w : World} {a b : Int} (e : b = a) : SameI w a (.returned (.int .i64 b)) w := ⟨by rw [e], rfl⟩
/-- the place of the first byte of that kind from a place on -/
def cutAt (s : ByteArray) (p : Nat) (c : UInt8) : Nat := p + untilN c (s.data.toList.drop p)
theorem rdrop_at (s : ByteArray) (p : Nat) (h : p < s.size) : s.data.toList.drop p = s[p] :: s.data.toList.drop (p + 1) := by
  rw [List.drop_eq_getElem_cons (by simpa using h)]; rfl
theorem cutAt_hit (s : ByteArray) (p : Nat) (c : UInt8) (h : p < s.size) (hc : s[p] = c) : cutAt s p c = p := by
  unfold cutAt; rw [rdrop_at s p h, untilN, if_pos hc]; rfl
theorem cutAt_go (s : ByteArray) (p : Nat) (c : UInt8) (h : p < s.size) (hc : s[p] ≠ c) : cutAt s (p + 1) c = cutAt s p c := by
  unfold cutAt; rw [rdrop_at s p h, untilN, if_neg hc]; omega
theorem cutAt_end (s : ByteArray) (p : Nat) (c : UInt8) (h : s.size ≤ p) : cutAt s p c = p := by
  unfold cutAt; rw [List.drop_of_length_le (by simpa using h)]; rfl
theorem cutAt_le (s : ByteArray) (p : Nat) (c : UInt8) (h : p ≤ s.size) : p ≤ cutAt s p c ∧ cutAt s p c ≤ s.size := by
  unfold cutAt
  have := untilN_le c (s.data.toList.drop p)
  rw [List.length_drop] at this
  have hl : s.data.toList.length = s.size := by simp
  omega

set_option maxHeartbeats 1000000 in
theorem cut_any (s : ByteArray) (hs : s.size ≤ 140737488355328) (p0 : Nat) (hp0 : p0 ≤ s.size) (c : UInt8) (w : World) :
    Calls Tryz.prog 142 #[.string s, .int .i64 p0, .int .u8 (c.toNat : Int)] w (SameI w (cutAt s p0 c)) := by
  go_enter Tryz.func142, Tryz.ntmps142
  go_wp2
  go_loop [1] (fun i => ∃ p : Nat, i = .int .i64 ↑p ∧ p ≤ s.size ∧ cutAt s p c = cutAt s p0 c) (fun i => s.size - (intOf i).toNat)
  case atStart => exact ⟨p0, rfl, hp0, rfl⟩
  case round =>
    obtain ⟨p, rfl, hp, hF⟩ := hrel
    have HF := Lib.hid hF; clear hF
    by_cases hlt : p < s.size
    · have hi1 : (0 : Int) ≤ (p : Int) ∧ (p : Int) < (s.size : Int) := by omega
      by_cases hc : s[p] = c
      · have HC := Lib.hid (cutAt_hit s p c hlt hc)
        have hd : ((s[p].toNat : Int) != (c.toNat : Int)) = false := by rw [hc]; simp
        clear hc
        go_wp2
        go_ret
        exact SameI.mk (by rw [← HF.out, HC.out])
      · have HC := Lib.hid (cutAt_go s p c hlt hc)
        have hd : ((s[p].toNat : Int) != (c.toNat : Int)) = true := by
          rw [bne_iff_ne]; intro e; exact hc (UInt8.toNat_inj.1 (by omega))
        clear hc
        go_wp2
        go_round
        case rel => exact ⟨p + 1, by go_num, by omega, by rw [HC.out, HF.out]⟩
        case measure => simp [intOf]; omega
    · have HC := Lib.hid (cutAt_end s p c (by omega))
      go_wp2
      go_ret
      exact SameI.mk (by rw [← HF.out, HC.out])
end Go.Proofs.YtibklpbnjpefnaaGreatDoor

/- The walks of arborref06.decimal, Address, Range, digest, Identity, Right. Condition: a text has at most 2^47 bytes. -/
import Derived.Test.YtibklpbnjpefnaaGreatDoorRefA3
namespace Go.Proofs.YtibklpbnjpefnaaGreatDoor
open Go.RowKit

theorem digF_drop (s : ByteArray) (acc : Int) (k : Nat) (h : k < s.size) (hd : isD s[k] = true) : digF acc (s.data.toList.drop k) = digF (10 * acc + ((s[k].toNat : Int) - 48)) (s.data.toList.drop (k + 1)) := by
  rw [rdrop_at s k h, digF, if_pos hd]
theorem digF_stop (s : ByteArray) (acc : Int) (k : Nat) (h : k < s.size) (hd : isD s[k] = false) : digF acc (s.data.toList.drop k) = none := by
  rw [rdrop_at s k h, digF, if_neg (by rw [hd]; simp)]
theorem pow10_le3 (k : Nat) (h : k < 3) : (10 : Int) ^ k ≤ 100 := by
  match k, h with
  | 0, _ => decide
  | 1, _ => decide
  | 2, _ => decide
theorem sub48 (b : UInt8) (h : 48 ≤ b.toNat) : ((b.toNat : Int) - 48) % 256 = (b.toNat : Int) - 48 := by have := UInt8.toNat_lt b; omega

set_option maxRecDepth 100000 in
set_option maxHeartbeats 2000000 in
theorem refDec_any (s : ByteArray) (hs : s.size ≤ 140737488355328) (most : Int) (w : World) :
    Calls Tryz.prog 143 #[.string s, .int .i64 most] w (SameI w (decR s.data.toList most)) := by
  have hl : s.data.toList.length = s.size := by simp
  have HT := Lib.hid (show decR s.data.toList most = if s.data.toList.length < 1 ∨ 3 < s.data.toList.length ∨ (1 < s.data.toList.length ∧ s.data.toList.getD 0 0 = 48) then -1
    else match digF 0 s.data.toList with | none => -1 | some n => if most < n then -1 else n from rfl)
  rw [hl] at HT
  clear hl
  by_cases h0 : s.size < 1
  · have HX : Hid (decR s.data.toList most = -1) := Lib.hid (by rw [HT.out, if_pos (.inl h0)])
    go_enter Tryz.func143, Tryz.ntmps143
    go_wp2
    go_ret
    exact SameI.mk HX.out.symm
  by_cases h3 : 3 < s.size
  · have HX : Hid (decR s.data.toList most = -1) := Lib.hid (by rw [HT.out, if_pos (.inr (.inl h3))])
    go_enter Tryz.func143, Tryz.ntmps143
    go_wp2
    go_ret
    exact SameI.mk HX.out.symm
  have h1 : 1 ≤ s.size := by omega
  have h3' : s.size ≤ 3 := by omega
  have hg0 : s.data.toList.getD 0 0 = s[0] := by rw [← get_bang s 0 (by omega)]; exact get_dropU s 0 0
  rw [hg0] at HT
  clear hg0
  have i0 : (0 : Int) ≤ 0 ∧ (0 : Int) < (s.size : Int) := by omega
  by_cases h2 : 1 < s.size ∧ s[0] = 48
  · have HX : Hid (decR s.data.toList most = -1) := Lib.hid (by rw [HT.out, if_pos (.inr (.inr h2))])
    obtain ⟨h4, h5⟩ := h2
    have hd : ((s[0].toNat : Int) == 48) = true := by rw [h5]; rfl
    clear h5 h0 h3
    go_enter Tryz.func143, Tryz.ntmps143
    go_wp2
    go_ret
    exact SameI.mk HX.out.symm
  have HT2 : Hid (decR s.data.toList most = match digF 0 (s.data.toList.drop 0) with | none => -1 | some n => if most < n then -1 else n) := Lib.hid (by rw [HT.out, if_neg (by rintro (h | h | h); exact h0 h; exact h3 h; exact h2 h), List.drop_zero])
  clear HT
  have hcase : (s.size : Int) ≤ 1 ∨ (1 < (s.size : Int) ∧ ((s[0].toNat : Int) == 48) = false) := by
    by_cases h : 1 < s.size
    · right
      refine ⟨by omega, ?_⟩
      rw [beq_eq_false_iff_ne]
      intro e; exact h2 ⟨h, UInt8.toNat_inj.1 (by show s[0].toNat = 48; omega)⟩
    · left; omega
  clear h2 h0 h3
  rcases hcase with hc | ⟨hc, hd⟩
  all_goals
    go_enter Tryz.func143, Tryz.ntmps143
    go_wp2
    go_loop [5, 6] (fun n i => ∃ (k : Nat) (acc : Int), i = .int .i64 ↑k ∧ n = .int .i64 acc ∧ k ≤ s.size ∧ 0 ≤ acc ∧ acc < 10 ^ k ∧ digF 0 (s.data.toList.drop 0) = digF acc (s.data.toList.drop k)) (fun _ i => s.size - (intOf i).toNat)
    case atStart => exact ⟨0, 0, rfl, rfl, by omega, by omega, by decide, rfl⟩
    case round =>
      obtain ⟨k, acc, rfl, rfl, hk, ha0, ha1, hF⟩ := hrel
      have HF := Lib.hid hF; clear hF
      by_cases hlt : k < s.size
      · have hi1 : (0 : Int) ≤ (k : Int) ∧ (k : Int) < (s.size : Int) := by omega
        have hp := pow10_le3 k (by omega)
        have hb8 := UInt8.toNat_lt s[k]
        by_cases hdg : isD s[k] = true
        · have HS := Lib.hid (digF_drop s acc k hlt hdg)
          simp only [isD, Bool.and_eq_true, decide_eq_true_eq] at hdg
          obtain ⟨d1, d2⟩ := hdg
          go_wp2
          go_round
          case rel => exact ⟨k + 1, 10 * acc + ((s[k].toNat : Int) - 48), by go_num, by first | rfl | (congr 1; omega), by omega, by omega, by rw [Int.pow_succ]; omega, by rw [HF.out, HS.out]⟩
          case measure => simp [intOf]; omega
        · have hdf : isD s[k] = false := by simpa using hdg
          have HS := Lib.hid (digF_stop s acc k hlt hdf)
          have HX : Hid (decR s.data.toList most = -1) := Lib.hid (by rw [HT2.out, HF.out, HS.out])
          have hor : s[k].toNat < 48 ∨ 57 < s[k].toNat := by
            simp only [isD, Bool.and_eq_true, decide_eq_true_eq] at hdg; omega
          clear hdg hdf
          rcases hor with d1 | d1
          · go_wp2
            go_ret
            exact SameI.mk HX.out.symm
          · go_wp2
            go_ret
            exact SameI.mk HX.out.symm
      · have HX : Hid (decR s.data.toList most = if most < acc then -1 else acc) := Lib.hid (by
          have hn : s.data.toList.drop k = [] := List.drop_of_length_le (by simp; omega)
          rw [HT2.out, HF.out, hn, digF])
        by_cases hma : most < acc
        · rw [if_pos hma] at HX
          go_wp2
          go_ret
          exact SameI.mk HX.out.symm
        · rw [if_neg hma] at HX
          go_wp2
          go_ret
          exact SameI.mk HX.out.symm
end Go.Proofs.YtibklpbnjpefnaaGreatDoor

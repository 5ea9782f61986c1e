/- The walks of runes.of, arborref01.Of and arborref01.Char: each computes the plain function of XRPlain, at every place inside the text. -/
import Derived.Test.YtbpmmmnphpkdjaaGreatDoorWShelf
import Derived.Test.YtbpmmmnphpkdjaaGreatDoorWAddrP
import Derived.LoopTactic
import Derived.Lib.Hide
namespace Go.Proofs.YtbpmmmnphpkdjaaGreatDoor
set_option linter.unusedSimpArgs false
set_option maxRecDepth 100000
set_option maxHeartbeats 20000000
open Go.RowKit

theorem qkD (s : ByteArray) (p : Nat) (hp : p < s.size) (_hs : s.size ≤ 140737488355328) (w : World) :
  Calls Tryz.prog 264 #[.string s, .int .i64 p, .int .i32 (Utf8.decode s p).1] w fun e w' => e = .returned (.int .i64 (qbh s p)) ∧ w = w' := by
 by_cases h : (Utf8.decode s p).1 = 65533
 ·have hpre := qiM s p h
  by_cases h1 : (Utf8.decode s p).2 = 1
  ·have hk : qbh s p = 8 := by unfold qbh; rw [if_pos ⟨h, h1⟩]
   have H := Lib.hid hk; clear hk
   have H2 : Lib.hasPrefix (s.extract p s.size).data.toList [239, 191, 189] = false := by rw [hpre, h1]; rfl
   clear hpre h1
   generalize (Utf8.decode s p).1 = d at *
   subst h
   go_enter Tryz.func264, Tryz.ntmps264
   go_wp2_with (go_at_call 279; refine (Tryz.strings_HasPrefix _ _ _).mono ?_; rintro e w' ⟨rfl, rfl⟩; simp only [H2])
   go_ret
   exact ⟨qcT (by rw [H.out]), rfl⟩
  ·have hk : qbh s p = qdC 65533 := by unfold qbh; rw [if_neg (fun hh => h1 hh.2), h]; rfl
   have H := Lib.hid hk; clear hk
   have H2 : Lib.hasPrefix (s.extract p s.size).data.toList [239, 191, 189] = true := by rw [hpre]; simp [h1]
   clear hpre h1
   generalize (Utf8.decode s p).1 = d at *
   subst h
   go_enter Tryz.func264, Tryz.ntmps264
   go_wp2_with (first | (go_at_call 279; refine (Tryz.strings_HasPrefix _ _ _).mono ?_; rintro e w' ⟨rfl, rfl⟩; simp only [H2]) | (go_at_call 280; refine (qhZ _ _).mono ?_; rintro e w' ⟨rfl, rfl⟩))
   go_ret
   exact ⟨qcT (by rw [H.out]), rfl⟩
 ·have hk : qbh s p = qdC ((Utf8.decode s p).1 : Int) := by unfold qbh; rw [if_neg (fun hh => h hh.1)]
  have H := Lib.hid hk; clear hk
  generalize (Utf8.decode s p).1 = d at *
  have hb : (((d : Nat) : Int) == 65533) = false := by simp; omega
  go_enter Tryz.func264, Tryz.ntmps264
  go_wp2_with (go_at_call 280; refine (qhZ _ _).mono ?_; rintro e w' ⟨rfl, rfl⟩)
  go_ret
  exact ⟨qcT (by rw [H.out]), rfl⟩

theorem qes (r : Int) (w : World) :
  Calls Tryz.prog 269 #[.int .i64 r] w fun e w' => e = .returned (.int .i64 (ofI r)) ∧ w = w' := by
 by_cases h : r < 0
 ·go_enter Tryz.func269, Tryz.ntmps269
  go_wp2
  go_ret
  exact ⟨qcT (by unfold ofI; rw [if_pos h]), rfl⟩
 ·go_enter Tryz.func269, Tryz.ntmps269
  go_wp2_with (go_at_call 281; refine (qik _ _).mono ?_; rintro e w' ⟨rfl, rfl⟩)
  go_ret
  exact ⟨qcT (by unfold ofI; rw [if_neg (by omega)]), rfl⟩

/-- what Char answers -/
def Chr (s : ByteArray) (p : Nat) (w : World) (e : Ending) (w' : World) : Prop := e = .returned (.tuple #[.int .i64 (qby s p), .int .i64 (qaJ s p)]) ∧ w = w'
theorem Chr.mk {s : ByteArray} {p : Nat} {w : World} {a b : Int} (h : qby s p = a ∧ (qaJ s p : Int) = b) : Chr s p w (.returned (.tuple #[.int .i64 a, .int .i64 b])) w := ⟨by rw [h.1, h.2], rfl⟩
theorem qmz (s : ByteArray) (p : Nat) (hp : p < s.size) (_hs : s.size ≤ 140737488355328) (w : World) (hb : (s[p].toNat : Int) < 128) :
  Calls Tryz.prog 268 #[.string s, .int .i64 p] w (Chr s p w) := by
 go_enter Tryz.func268, Tryz.ntmps268
 go_wp2
 go_ret2
 refine Chr.mk ?_
 have e : Utf8.decode s p = ((s.get! p).toNat, 1) := by
  rw [Lib.decode_at]; unfold Lib.decodeN; rw [if_pos (by rw [qbj s p hp]; omega)]
 unfold qby qaJ; rw [e, qbj s p hp]; exact ⟨by rw [if_neg (by intro h; simp at h; omega)], rfl⟩

theorem qfK (s : ByteArray) (p : Nat) (hp : p < s.size) (_hs : s.size ≤ 140737488355328) (w : World) (hb : (128 ≤ (s[p].toNat : Int) ∧ (s[p].toNat : Int) < 192) ∨ 248 ≤ (s[p].toNat : Int)) :
  Calls Tryz.prog 268 #[.string s, .int .i64 p] w (Chr s p w) := by
 have hd : Utf8.decode s p = (65533, 1) := by
  rw [Lib.decode_at]; exact qko _ _ _ _ _ (by rw [qbj s p hp]; have := UInt8.toNat_lt s[p]; omega)
 have H := Lib.hid (qbV hd); clear hd
 have hlt := UInt8.toNat_lt s[p]
 rcases hb with ⟨h1, h2⟩ | h1
 ·go_enter Tryz.func268, Tryz.ntmps268
  go_wp2
  go_ret2
  exact Chr.mk H.out
 ·go_enter Tryz.func268, Tryz.ntmps268
  go_wp2
  go_ret2
  exact Chr.mk H.out

theorem qoK (s : ByteArray) (p : Nat) (hp : p < s.size) (_hs : s.size ≤ 140737488355328) (w : World) (hb : 192 ≤ (s[p].toNat : Int)) (hb2 : (s[p].toNat : Int) < 224) :
  Calls Tryz.prog 268 #[.string s, .int .i64 p] w (Chr s p w) := by
 have HE := Lib.hid (qoZ s p hp hb hb2)
 have HN := Lib.hid (no_2 s p hp hb hb2)
 go_enter Tryz.func268, Tryz.ntmps268
 go_wp2
 go_loop [8, 10] (fun r i => ∃ k : Nat, k < 2 ∧ i = .int .i64 ↑(k + 1) ∧ r = .int .i64 (accI s p ((s[p].toNat : Int) - 192) k) ∧ ContsTo s p k) (fun _ i => 3 - (intOf i).toNat)
 case atStart => exact ⟨0, by omega, by go_num, by simp [accI], ContsTo.zero s p⟩
 case round =>
  obtain ⟨k, hk, rfl, rfl, hc⟩ := hrel
  obtain ⟨bd0, bd1⟩ := accI_bd' s p ((s[p].toNat : Int) - 192) (by omega) (by omega) k (by omega) hc
  by_cases hkn : k + 1 < 2
  ·have HC := Lib.hid hc; clear hc
   by_cases hin : p + (k + 1) < s.size
   ·have hlt := UInt8.toNat_lt s[p + (k + 1)]
    have HG := Lib.hid (qbj s (p + (k + 1)) hin)
    by_cases c1 : (128 : Int) ≤ (s[p + (k + 1)].toNat : Int)
    ·by_cases c2 : (s[p + (k + 1)].toNat : Int) < 192
     ·have HK := Lib.hid (HC.out.succ ⟨hin, by rw [HG.out]; omega, by rw [HG.out]; omega⟩)
      go_wp2
      go_round
      case rel => exact ⟨k + 1, by omega, by go_num, by rw [accI, HG.out], HK.out⟩
      case measure => simp [intOf]; omega
     ·have HK := Lib.hid (HN.out k hkn (by rintro ⟨_, _, hh⟩; rw [HG.out] at hh; omega))
      go_wp2
      go_ret2
      exact Chr.mk HK.out
    ·have HK := Lib.hid (HN.out k hkn (by rintro ⟨_, hh, _⟩; rw [HG.out] at hh; omega))
     go_wp2
     go_ret2
     exact Chr.mk HK.out
   ·have HK := Lib.hid (HN.out k hkn (by rintro ⟨hh, _, _⟩; omega))
    go_wp2
    go_ret2
    exact Chr.mk HK.out
  ·obtain rfl : k = 1 := by omega
   have HK := Lib.hid (HE.out hc)
   clear HE HN hc
   generalize accI s p ((s[p].toNat : Int) - 192) 1 = x at *
   go_wp2
   all_goals go_ret2
   all_goals first | exact Chr.mk (HK.out.1 (by unfold badX; omega)) | exact Chr.mk (HK.out.2 (by unfold badX; omega))

theorem qoI (s : ByteArray) (p : Nat) (hp : p < s.size) (_hs : s.size ≤ 140737488355328) (w : World) (hb : 224 ≤ (s[p].toNat : Int)) (hb2 : (s[p].toNat : Int) < 240) :
  Calls Tryz.prog 268 #[.string s, .int .i64 p] w (Chr s p w) := by
 have HE := Lib.hid (qpa s p hp hb hb2)
 have HN := Lib.hid (no_3 s p hp hb hb2)
 go_enter Tryz.func268, Tryz.ntmps268
 go_wp2
 go_loop [8, 10] (fun r i => ∃ k : Nat, k < 3 ∧ i = .int .i64 ↑(k + 1) ∧ r = .int .i64 (accI s p ((s[p].toNat : Int) - 224) k) ∧ ContsTo s p k) (fun _ i => 4 - (intOf i).toNat)
 case atStart => exact ⟨0, by omega, by go_num, by simp [accI], ContsTo.zero s p⟩
 case round =>
  obtain ⟨k, hk, rfl, rfl, hc⟩ := hrel
  obtain ⟨bd0, bd1⟩ := accI_bd' s p ((s[p].toNat : Int) - 224) (by omega) (by omega) k (by omega) hc
  by_cases hkn : k + 1 < 3
  ·have HC := Lib.hid hc; clear hc
   by_cases hin : p + (k + 1) < s.size
   ·have hlt := UInt8.toNat_lt s[p + (k + 1)]
    have HG := Lib.hid (qbj s (p + (k + 1)) hin)
    by_cases c1 : (128 : Int) ≤ (s[p + (k + 1)].toNat : Int)
    ·by_cases c2 : (s[p + (k + 1)].toNat : Int) < 192
     ·have HK := Lib.hid (HC.out.succ ⟨hin, by rw [HG.out]; omega, by rw [HG.out]; omega⟩)
      go_wp2
      go_round
      case rel => exact ⟨k + 1, by omega, by go_num, by rw [accI, HG.out], HK.out⟩
      case measure => simp [intOf]; omega
     ·have HK := Lib.hid (HN.out k hkn (by rintro ⟨_, _, hh⟩; rw [HG.out] at hh; omega))
      go_wp2
      go_ret2
      exact Chr.mk HK.out
    ·have HK := Lib.hid (HN.out k hkn (by rintro ⟨_, hh, _⟩; rw [HG.out] at hh; omega))
     go_wp2
     go_ret2
     exact Chr.mk HK.out
   ·have HK := Lib.hid (HN.out k hkn (by rintro ⟨hh, _, _⟩; omega))
    go_wp2
    go_ret2
    exact Chr.mk HK.out
  ·obtain rfl : k = 2 := by omega
   have HK := Lib.hid (HE.out hc)
   clear HE HN hc
   generalize accI s p ((s[p].toNat : Int) - 224) 2 = x at *
   go_wp2
   all_goals go_ret2
   all_goals first | exact Chr.mk (HK.out.1 (by unfold badX; omega)) | exact Chr.mk (HK.out.2 (by unfold badX; omega))

theorem qoG (s : ByteArray) (p : Nat) (hp : p < s.size) (_hs : s.size ≤ 140737488355328) (w : World) (hb : 240 ≤ (s[p].toNat : Int)) (hb2 : (s[p].toNat : Int) < 248) :
  Calls Tryz.prog 268 #[.string s, .int .i64 p] w (Chr s p w) := by
 have HE := Lib.hid (qpl s p hp hb hb2)
 have HN := Lib.hid (no_4 s p hp hb hb2)
 go_enter Tryz.func268, Tryz.ntmps268
 go_wp2
 go_loop [8, 10] (fun r i => ∃ k : Nat, k < 4 ∧ i = .int .i64 ↑(k + 1) ∧ r = .int .i64 (accI s p ((s[p].toNat : Int) - 240) k) ∧ ContsTo s p k) (fun _ i => 5 - (intOf i).toNat)
 case atStart => exact ⟨0, by omega, by go_num, by simp [accI], ContsTo.zero s p⟩
 case round =>
  obtain ⟨k, hk, rfl, rfl, hc⟩ := hrel
  obtain ⟨bd0, bd1⟩ := accI_bd' s p ((s[p].toNat : Int) - 240) (by omega) (by omega) k (by omega) hc
  by_cases hkn : k + 1 < 4
  ·have HC := Lib.hid hc; clear hc
   by_cases hin : p + (k + 1) < s.size
   ·have hlt := UInt8.toNat_lt s[p + (k + 1)]
    have HG := Lib.hid (qbj s (p + (k + 1)) hin)
    by_cases c1 : (128 : Int) ≤ (s[p + (k + 1)].toNat : Int)
    ·by_cases c2 : (s[p + (k + 1)].toNat : Int) < 192
     ·have HK := Lib.hid (HC.out.succ ⟨hin, by rw [HG.out]; omega, by rw [HG.out]; omega⟩)
      go_wp2
      go_round
      case rel => exact ⟨k + 1, by omega, by go_num, by rw [accI, HG.out], HK.out⟩
      case measure => simp [intOf]; omega
     ·have HK := Lib.hid (HN.out k hkn (by rintro ⟨_, _, hh⟩; rw [HG.out] at hh; omega))
      go_wp2
      go_ret2
      exact Chr.mk HK.out
    ·have HK := Lib.hid (HN.out k hkn (by rintro ⟨_, hh, _⟩; rw [HG.out] at hh; omega))
     go_wp2
     go_ret2
     exact Chr.mk HK.out
   ·have HK := Lib.hid (HN.out k hkn (by rintro ⟨hh, _, _⟩; omega))
    go_wp2
    go_ret2
    exact Chr.mk HK.out
  ·obtain rfl : k = 3 := by omega
   have HK := Lib.hid (HE.out hc)
   clear HE HN hc
   generalize accI s p ((s[p].toNat : Int) - 240) 3 = x at *
   go_wp2
   all_goals go_ret2
   all_goals first | exact Chr.mk (HK.out.1 (by unfold badX; omega)) | exact Chr.mk (HK.out.2 (by unfold badX; omega))

/-- arborref01.Char at any place inside the text: the character's rune (-1 of a broken one) and how many bytes it has. -/
theorem qfq (s : ByteArray) (p : Nat) (hp : p < s.size) (hs : s.size ≤ 140737488355328) (w : World) :
  Calls Tryz.prog 268 #[.string s, .int .i64 p] w (Chr s p w) := by
 have hlt := UInt8.toNat_lt s[p]
 by_cases h1 : (s[p].toNat : Int) < 128
 ·exact qmz s p hp hs w h1
 ·by_cases h2 : (s[p].toNat : Int) < 192
  ·exact qfK s p hp hs w (.inl ⟨by omega, h2⟩)
  ·by_cases h3 : (s[p].toNat : Int) < 224
   ·exact qoK s p hp hs w (by omega) h3
   ·by_cases h4 : (s[p].toNat : Int) < 240
    ·exact qoI s p hp hs w (by omega) h4
    ·by_cases h5 : (s[p].toNat : Int) < 248
     ·exact qoG s p hp hs w (by omega) h5
     ·exact qfK s p hp hs w (.inr (by omega))
end Go.Proofs.YtbpmmmnphpkdjaaGreatDoor

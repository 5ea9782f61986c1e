/- The walks of the reference's texts: arborref02.more, Utf8; arborref06.right, cut, decimal. -/
import Derived.Test.YtbpmmmnphpkdjaaGreatDoorWQuoG
import Derived.Test.YtbpmmmnphpkdjaaGreatDoorWAclF
import Derived.Test.YtbpmmmnphpkdjaaGreatDoorWQueB
namespace Go.Proofs.YtbpmmmnphpkdjaaGreatDoor
set_option linter.unusedSimpArgs false
set_option maxRecDepth 100000
set_option maxHeartbeats 20000000
open Go.RowKit

theorem qfc (b : Nat) : -1 ≤ (qaT b).1 ∧ (qaT b).1 ≤ 3 ∧ (qaT b).2.1 ≤ 255 ∧ (qaT b).2.2 ≤ 255 := by
 unfold qaT; (repeat' split) <;> simp
def RetM (w : World) (m : Int × Nat × Nat) (e : Ending) (w' : World) : Prop := e = .returned (.tuple #[.int .i64 m.1, .int .u8 m.2.1, .int .u8 m.2.2]) ∧ w = w'
theorem RetM.mk {w : World} {m : Int × Nat × Nat} {a b c : Int} (e1 : a = m.1) (e2 : b = m.2.1) (e3 : c = m.2.2) : RetM w m (.returned (.tuple #[.int .i64 a, .int .u8 b, .int .u8 c])) w := ⟨by rw [e1, e2, e3], rfl⟩

theorem qlJ (b : Nat) (hb : b < 256) (w : World) :
  Calls Tryz.prog 226 #[.int .u8 (b : Int)] w (RetM w (qaT b)) := by
 have H := Lib.hid (show qaT b = if b < 128 then (0, 0, 0) else if 194 ≤ b ∧ b ≤ 223 then (1, 128, 191) else if b = 224 then (2, 160, 191) else if b = 237 then (2, 128, 159)
  else if 225 ≤ b ∧ b ≤ 239 then (2, 128, 191) else if b = 240 then (3, 144, 191) else if b = 244 then (3, 128, 143) else if 241 ≤ b ∧ b ≤ 243 then (3, 128, 191) else (-1, 0, 0) from rfl)
 have q : ∀ n : Nat, b = n → ((b : Int) == (n : Int)) = true := fun n h => by simp [h]
 have q' : ∀ n : Nat, b ≠ n → ((b : Int) == (n : Int)) = false := fun n h => by simp; omega
 have HQ := Lib.hid q; have HQ' := Lib.hid q'; clear q q'
 have fin : ∀ m : Int × Nat × Nat, qaT b = m → Hid (qaT b = m) := fun _ h => Lib.hid h
 have HF := Lib.hid fin; clear fin
 by_cases c1 : b < 128
 ·have HM := HF.out _ (by rw [H.out, if_pos c1])
  go_enter Tryz.func226, Tryz.ntmps226
  go_wp2
  go_ret3
  exact RetM.mk (by rw [HM.out]) (by rw [HM.out]; rfl) (by rw [HM.out]; rfl)
 by_cases c2 : 194 ≤ b ∧ b ≤ 223
 ·have HM := HF.out _ (by rw [H.out, if_neg c1, if_pos c2])
  obtain ⟨d1, d2⟩ := c2
  go_enter Tryz.func226, Tryz.ntmps226
  go_wp2
  go_ret3
  exact RetM.mk (by rw [HM.out]) (by rw [HM.out]; rfl) (by rw [HM.out]; rfl)
 have e1 : (decide ((194 : Int) ≤ (b : Int)) && decide ((b : Int) ≤ 223)) = false := by simp; omega
 by_cases c3 : b = 224
 ·have HM := HF.out _ (by rw [H.out, if_neg c1, if_neg c2, if_pos c3])
  clear c1 c2
  subst c3
  go_enter Tryz.func226, Tryz.ntmps226
  go_wp2
  go_ret3
  exact RetM.mk (by rw [HM.out]) (by rw [HM.out]; rfl) (by rw [HM.out]; rfl)
 by_cases c4 : b = 237
 ·have HM := HF.out _ (by rw [H.out, if_neg c1, if_neg c2, if_neg c3, if_pos c4])
  clear c1 c2 c3
  subst c4
  go_enter Tryz.func226, Tryz.ntmps226
  go_wp2
  go_ret3
  exact RetM.mk (by rw [HM.out]) (by rw [HM.out]; rfl) (by rw [HM.out]; rfl)
 have f3 := HQ'.out 224 c3
 have f4 := HQ'.out 237 c4
 by_cases c5 : 225 ≤ b ∧ b ≤ 239
 ·have HM := HF.out _ (by rw [H.out, if_neg c1, if_neg c2, if_neg c3, if_neg c4, if_pos c5])
  clear c2 c3 c4
  obtain ⟨d1, d2⟩ := c5
  have d3 : 223 < b := by omega
  go_enter Tryz.func226, Tryz.ntmps226
  go_wp2
  go_ret3
  exact RetM.mk (by rw [HM.out]) (by rw [HM.out]; rfl) (by rw [HM.out]; rfl)
 by_cases c6 : b = 240
 ·have HM := HF.out _ (by rw [H.out, if_neg c1, if_neg c2, if_neg c3, if_neg c4, if_neg c5, if_pos c6])
  clear c1 c2 c3 c4 c5 e1 f3 f4
  subst c6
  go_enter Tryz.func226, Tryz.ntmps226
  go_wp2
  go_ret3
  exact RetM.mk (by rw [HM.out]) (by rw [HM.out]; rfl) (by rw [HM.out]; rfl)
 by_cases c7 : b = 244
 ·have HM := HF.out _ (by rw [H.out, if_neg c1, if_neg c2, if_neg c3, if_neg c4, if_neg c5, if_neg c6, if_pos c7])
  clear c1 c2 c3 c4 c5 c6 e1 f3 f4
  subst c7
  go_enter Tryz.func226, Tryz.ntmps226
  go_wp2
  go_ret3
  exact RetM.mk (by rw [HM.out]) (by rw [HM.out]; rfl) (by rw [HM.out]; rfl)
 have f6 := HQ'.out 240 c6
 have f7 := HQ'.out 244 c7
 by_cases c8 : 241 ≤ b ∧ b ≤ 243
 ·have HM := HF.out _ (by rw [H.out, if_neg c1, if_neg c2, if_neg c3, if_neg c4, if_neg c5, if_neg c6, if_neg c7, if_pos c8])
  clear c2 c3 c4 c5 c6 c7
  obtain ⟨d1, d2⟩ := c8
  have d3 : 239 < b := by omega
  have d4 : 223 < b := by omega
  go_enter Tryz.func226, Tryz.ntmps226
  go_wp2
  go_ret3
  exact RetM.mk (by rw [HM.out]) (by rw [HM.out]; rfl) (by rw [HM.out]; rfl)
 have HM := HF.out _ (by rw [H.out, if_neg c1, if_neg c2, if_neg c3, if_neg c4, if_neg c5, if_neg c6, if_neg c7, if_neg c8])
 by_cases c9 : b < 194
 ·clear c2 c3 c4 c5 c6 c7 c8
  have d1 : b < 225 := by omega
  have d2 : b < 241 := by omega
  go_enter Tryz.func226, Tryz.ntmps226
  go_wp2
  go_ret3
  exact RetM.mk (by rw [HM.out]) (by rw [HM.out]; rfl) (by rw [HM.out]; rfl)
 ·have d0 : 244 < b := by omega
  clear c2 c3 c4 c5 c6 c7 c8
  have d1 : 239 < b := by omega
  have d2 : 243 < b := by omega
  have d3 : 223 < b := by omega
  go_enter Tryz.func226, Tryz.ntmps226
  go_wp2
  go_ret3
  exact RetM.mk (by rw [HM.out]) (by rw [HM.out]; rfl) (by rw [HM.out]; rfl)
open Go.RowKit

def loJ (m : Int × Nat × Nat) (j : Nat) : Nat := if j = 1 then m.2.1 else 128
def hiJ (m : Int × Nat × Nat) (j : Nat) : Nat := if j = 1 then m.2.2 else 191
theorem qmJ (m : Int × Nat × Nat) (j : Nat) (h : 1 ≤ j) : loJ m (j + 1) = 128 := if_neg (by omega)
theorem qlX (m : Int × Nat × Nat) (j : Nat) (h : 1 ≤ j) : hiJ m (j + 1) = 191 := if_neg (by omega)
def qcH (b1 b2 b3 j : Nat) : Nat := if j = 1 then b1 else if j = 2 then b2 else b3
def qda (m : Int × Nat × Nat) (b1 b2 b3 j : Nat) : Prop := loJ m j ≤ qcH b1 b2 b3 j ∧ qcH b1 b2 b3 j ≤ hiJ m j
theorem qjp (len b0 b1 b2 b3 : Nat) (h : (qaT b0).1 < 0 ∨ (0 < (qaT b0).1 ∧ (len : Int) ≤ (qaT b0).1)) : qbW len b0 b1 b2 b3 = none := by
 unfold qbW; rw [if_pos h]
theorem qmg (len b0 b1 b2 b3 j : Nat) (h1 : 1 ≤ j) (h2 : (j : Int) ≤ (qaT b0).1) (h : ¬ qda (qaT b0) b1 b2 b3 j) : qbW len b0 b1 b2 b3 = none := by
 have hr := qfc b0
 unfold qbW
 have h3 : j ≤ 3 := by omega
 unfold qda at h
 split
 ·rfl
 match j, h1, h3 with
 | 1, _, _ => rw [if_pos ⟨by omega, by simp [loJ, hiJ, qcH] at h; omega⟩]
 | 2, _, _ =>
  split
  ·rfl
  ·rw [if_pos ⟨by omega, by simp [loJ, hiJ, qcH] at h; omega⟩]
 | 3, _, _ =>
  split
  ·rfl
  ·split
   ·rfl
   ·rw [if_pos ⟨by omega, by simp [loJ, hiJ, qcH] at h; omega⟩]
theorem qnM (len b0 b1 b2 b3 : Nat) (h : ¬ ((qaT b0).1 < 0 ∨ (0 < (qaT b0).1 ∧ (len : Int) ≤ (qaT b0).1))) (hg : ∀ j : Nat, 1 ≤ j → (j : Int) ≤ (qaT b0).1 → qda (qaT b0) b1 b2 b3 j) :
  qbW len b0 b1 b2 b3 = some ((qaT b0).1.toNat + 1) := by
 unfold qbW
 rw [if_neg h, if_neg, if_neg, if_neg]
 ·rintro ⟨a, b⟩
  have := hg 3 (by omega) (by omega)
  simp [qda, loJ, hiJ, qcH] at this; omega
 ·rintro ⟨a, b⟩
  have := hg 2 (by omega) (by omega)
  simp [qda, loJ, hiJ, qcH] at this; omega
 ·rintro ⟨a, b⟩
  have := hg 1 (by omega) (by omega)
  simp [qda, loJ, hiJ, qcH] at this; omega
theorem qed (s : ByteArray) (k : Nat) (h : k < s.size) : s.get! k = s[k] := by
 show s.data[k]! = _
 rw [getElem!_pos s.data k h]; rfl
theorem qlI (s : ByteArray) (p j : Nat) (h1 : 1 ≤ j) (h2 : j ≤ 3) (h : p + j < s.size) : (s[p + j].toNat : Nat) = qcH (s.get! (p + 1)).toNat (s.get! (p + 2)).toNat (s.get! (p + 3)).toNat j := by
 rw [← qed s (p + j) h]
 match j, h1, h2 with
 | 1, _, _ => rfl
 | 2, _, _ => rfl
 | 3, _, _ => rfl
def SameB (w : World) (b : Bool) (e : Ending) (w' : World) : Prop := e = .returned (.bool b) ∧ w = w'
theorem SameB.mk {w : World} {a b : Bool} (e : b = a) : SameB w a (.returned (.bool b)) w := ⟨by rw [e], rfl⟩
def qpm (m : Int × Nat × Nat) (b1 b2 b3 : Nat) (lo hi k : Value) : Prop := ∃ j : Nat, k = .int .i64 ↑j ∧ 1 ≤ j ∧ (j : Int) ≤ m.1 + 1 ∧ lo = .int .u8 ↑(loJ m j) ∧ hi = .int .u8 ↑(hiJ m j) ∧ ∀ i, 1 ≤ i → i < j → qda m b1 b2 b3 i

theorem qeJ (s : ByteArray) (hs : s.size ≤ 140737488355328) (w : World) :
  Calls Tryz.prog 196 #[.string s] w (SameB w (qaM s 0)) := by
 go_enter Tryz.func196, Tryz.ntmps196
 go_wp2
 go_loop [3] (fun i => ∃ p : Nat, i = .int .i64 ↑p ∧ p ≤ s.size ∧ qaM s p = qaM s 0) (fun i => s.size - (intOf i).toNat)
 case atStart => exact ⟨0, rfl, by omega, rfl⟩
 case round =>
  obtain ⟨p, rfl, hp, hF⟩ := hrel
  have HF := Lib.hid hF; clear hF
  by_cases hlt : p < s.size
  ·have hst := qgb s p hlt
   have hg0 : (s[p].toNat : Nat) = (s.get! p).toNat := by rw [qed s p hlt]
   have hb0 : (s.get! p).toNat < 256 := UInt8.toNat_lt _
   have hr := qfc (s.get! p).toNat
   have HS := Lib.hid hst; clear hst
   have hi1 : (0 : Int) ≤ (p : Int) ∧ (p : Int) < (s.size : Int) := by omega
   have cM := fun W => qlJ (s.get! p).toNat hb0 W
   unfold RetM at cM
   have HJ := Lib.hid (fun j (h1 : 1 ≤ j) (h2 : j ≤ 3) (h : p + j < s.size) => qlI s p j h1 h2 h)
   have HBJ : Hid (∀ j, qcH (s.get! (p + 1)).toNat (s.get! (p + 2)).toNat (s.get! (p + 3)).toNat j < 256) := Lib.hid (fun j => by
    unfold qcH; split
    ·exact UInt8.toNat_lt _
    ·split <;> exact UInt8.toNat_lt _)
   have HG0 := Lib.hid hg0; clear hg0
   have HN0 := Lib.hid (qjp (s.size - p) (s.get! p).toNat (s.get! (p + 1)).toNat (s.get! (p + 2)).toNat (s.get! (p + 3)).toNat)
   have HN1 := Lib.hid (qmg (s.size - p) (s.get! p).toNat (s.get! (p + 1)).toNat (s.get! (p + 2)).toNat (s.get! (p + 3)).toNat)
   have HN2 := Lib.hid (qnM (s.size - p) (s.get! p).toNat (s.get! (p + 1)).toNat (s.get! (p + 2)).toNat (s.get! (p + 3)).toNat)
   generalize qaT (s.get! p).toNat = mm at *
   generalize qbW (s.size - p) (s.get! p).toNat (s.get! (p + 1)).toNat (s.get! (p + 2)).toNat (s.get! (p + 3)).toNat = nx at *
   generalize (s.get! (p + 1)).toNat = b1 at *
   generalize (s.get! (p + 2)).toNat = b2 at *
   generalize (s.get! (p + 3)).toNat = b3 at *
   generalize (s.get! p).toNat = b0 at *
   obtain ⟨n, lo, hi⟩ := mm
   simp only [] at hr cM
   obtain ⟨r1, r2, r3, r4⟩ := hr
   by_cases hn : n < 0
   ·have HX : Hid (qaM s 0 = false) := Lib.hid (by rw [← HF.out, HS.out, HN0.out (.inl hn)])
    go_wp2_with fail
    rw [HG0.out]
    refine (cM _).mono ?_
    rintro e w1 ⟨rfl, rfl⟩
    go_wp2
    go_ret
    exact SameB.mk HX.out.symm
   by_cases hsh : 0 < n ∧ (s.size : Int) ≤ p + n
   ·have HX : Hid (qaM s 0 = false) := Lib.hid (by rw [← HF.out, HS.out, HN0.out (.inr ⟨hsh.1, by omega⟩)])
    obtain ⟨h1, h2⟩ := hsh
    have h3 : 0 ≤ n := by omega
    clear hn
    go_wp2_with fail
    rw [HG0.out]
    refine (cM _).mono ?_
    rintro e w1 ⟨rfl, rfl⟩
    go_wp2
    go_ret
    exact SameB.mk HX.out.symm
   have h0n : 0 ≤ n := by omega
   have hpn : (p : Int) + n < s.size := by omega
   have hpn0 : 0 ≤ (p : Int) + n := by omega
   have HSH := Lib.hid (show ¬ (n < 0 ∨ (0 < n ∧ ((s.size - p : Nat) : Int) ≤ n)) by omega)
   clear hn hsh
   go_wp2_with fail
   rw [HG0.out]
   refine (cM _).mono ?_
   rintro e w1 ⟨rfl, rfl⟩
   go_wp2
   go_loop [5, 6, 7] (qpm (n, lo, hi) b1 b2 b3) (fun _ _ k => n.toNat + 2 - (intOf k).toNat)
   case atStart => exact ⟨1, rfl, Nat.le_refl _, by show (1 : Int) ≤ n + 1; omega, rfl, rfl, fun i h1 h2 => absurd h1 (by omega)⟩
   case round =>
    obtain ⟨j, rfl, hj1, hj2, rfl, rfl, hall⟩ := hrel
    have HA := Lib.hid hall; clear hall
    simp only [] at hj2
    by_cases hle : (j : Int) ≤ n
    ·have hx1 : p + j < s.size := by omega
     have hx2 : (0 : Int) ≤ (p : Int) + j ∧ (p : Int) + j < (s.size : Int) := by omega
     have hbj := HJ.out j hj1 (by omega) hx1
     have hb9 := HBJ.out j
     by_cases hgd : qda (n, lo, hi) b1 b2 b3 j
     ·have HG := Lib.hid hgd
      unfold qda at hgd
      rw [← hbj] at hgd hb9
      clear hbj
      obtain ⟨g1, g2⟩ := hgd
      generalize loJ (n, lo, hi) j = x at *
      generalize hiJ (n, lo, hi) j = y at *
      go_wp2
      refine ⟨⟨j + 1, by go_num, by omega, by show ((j + 1 : Nat) : Int) ≤ n + 1; omega, by rw [qmJ _ _ hj1]; rfl, by rw [qlX _ _ hj1]; rfl, fun i h1 h2 => ?_⟩, by simp [intOf]; omega⟩
      rcases Nat.lt_succ_iff_lt_or_eq.1 h2 with h | h
      ·exact HA.out i h1 h
      ·subst h; exact HG.out
     ·have HX : Hid (qaM s 0 = false) := Lib.hid (by rw [← HF.out, HS.out, HN1.out j hj1 hle hgd])
      unfold qda at hgd
      rw [← hbj] at hgd hb9
      clear hbj
      generalize loJ (n, lo, hi) j = x at *
      generalize hiJ (n, lo, hi) j = y at *
      by_cases g1 : s[p + j].toNat < x
      ·clear hgd
       go_wp2
       go_ret
       exact SameB.mk HX.out.symm
      ·have g2 : y < s[p + j].toNat := by omega
       clear hgd
       go_wp2
       go_ret
       exact SameB.mk HX.out.symm
    ·have HX : Hid (qaM s (p + 1 + n.toNat) = qaM s 0) := Lib.hid (by rw [← HF.out, HS.out, HN2.out HSH.out (fun i h1 h2 => HA.out i h1 (by omega))]; show _ = qaM s (p + (n.toNat + 1)); congr 1; omega)
     go_wp2
     refine ⟨⟨p + 1 + n.toNat, ?_, by omega, HX.out⟩, by simp [intOf]; omega⟩
     rw [show ((p + 1 + n.toNat : Nat) : Int) = (p : Int) + 1 + n by omega]
  ·go_wp2
   go_ret
   exact SameB.mk (by rw [← HF.out]; exact (qgT s p hlt).symm)
open Go.RowKit

theorem qfe (s : ByteArray) (hs : s.size ≤ 140737488355328) (w : World) :
  Calls Tryz.prog 153 #[.string s] w (SameB w (qaN s)) := by
 have HT := Lib.hid (show qaN s = (decide (1 ≤ s.size) && decide (s.size ≤ 256) && qaM s 0 && qbn s 0) from rfl)
 by_cases h0 : s.size = 0
 ·have HX : Hid (qaN s = false) := Lib.hid (by rw [HT.out, h0]; rfl)
  have h1 : (s.size : Int) < 1 := by omega
  clear h0
  go_enter Tryz.func153, Tryz.ntmps153
  go_wp2
  go_ret
  exact SameB.mk HX.out.symm
 have h1 : 1 ≤ (s.size : Int) := by omega
 clear h0
 by_cases h2 : 256 < (s.size : Int)
 ·have HX : Hid (qaN s = false) := Lib.hid (by rw [HT.out, decide_eq_false (show ¬ s.size ≤ 256 by omega)]; simp)
  go_enter Tryz.func153, Tryz.ntmps153
  go_wp2
  go_ret
  exact SameB.mk HX.out.symm
 have h3 : (s.size : Int) ≤ 256 := by omega
 clear h2
 have cU := fun W => qeJ s hs W
 cases hv : qaM s 0 with
 | false =>
  rw [hv] at cU
  have HX : Hid (qaN s = false) := Lib.hid (by rw [HT.out, hv]; simp)
  clear hv
  go_enter Tryz.func153, Tryz.ntmps153
  go_wp2_with fail
  refine (cU _).mono ?_
  rintro e w1 ⟨rfl, rfl⟩
  go_wp2
  go_ret
  exact SameB.mk HX.out.symm
 | true =>
  rw [hv] at cU
  have HX : Hid (qaN s = qbn s 0) := Lib.hid (by rw [HT.out, hv, decide_eq_true (show 1 ≤ s.size by omega), decide_eq_true (show s.size ≤ 256 by omega)]; simp)
  clear hv
  go_enter Tryz.func153, Tryz.ntmps153
  go_wp2_with fail
  refine (cU _).mono ?_
  rintro e w1 ⟨rfl, rfl⟩
  go_wp2
  go_loop [3] (fun i => ∃ p : Nat, i = .int .i64 ↑p ∧ p ≤ s.size ∧ qbn s p = qbn s 0) (fun i => s.size - (intOf i).toNat)
  case atStart => exact ⟨0, rfl, by omega, rfl⟩
  case round =>
   obtain ⟨p, rfl, hp, hF⟩ := hrel
   have HF := Lib.hid hF; clear hF
   by_cases hlt : p < s.size
   ·have HS := Lib.hid (qbv s p hlt)
    have HB := Lib.hid (show okB (s.get! p).toNat = okB s[p].toNat by rw [qed s p hlt])
    have hi1 : (0 : Int) ≤ (p : Int) ∧ (p : Int) < (s.size : Int) := by omega
    by_cases c1 : (s[p].toNat : Int) < 33
    ·have HO : Hid (qbn s 0 = false) := Lib.hid (by rw [← HF.out, HS.out, HB.out]; unfold okB; rw [decide_eq_false (show ¬ 33 ≤ s[p].toNat by omega)]; rfl)
     go_wp2
     go_ret
     exact SameB.mk (by rw [HX.out, HO.out])
    by_cases c2 : s[p].toNat = 127
    ·have HO : Hid (qbn s 0 = false) := Lib.hid (by rw [← HF.out, HS.out, HB.out, c2]; rfl)
     have c3 : ((s[p].toNat : Int) == 127) = true := by simp [c2]
     clear c2
     go_wp2
     go_ret
     exact SameB.mk (by rw [HX.out, HO.out])
    have d2 : ((s[p].toNat : Int) == 127) = false := by simp; omega
    by_cases c3 : s[p].toNat = 44
    ·have HO : Hid (qbn s 0 = false) := Lib.hid (by rw [← HF.out, HS.out, HB.out, c3]; rfl)
     have c4 : ((s[p].toNat : Int) == 44) = true := by simp [c3]
     clear c2 c3
     go_wp2
     go_ret
     exact SameB.mk (by rw [HX.out, HO.out])
    have d3 : ((s[p].toNat : Int) == 44) = false := by simp; omega
    have HO : Hid (qbn s (p + 1) = qbn s 0) := Lib.hid (by rw [← HF.out, HS.out, HB.out]; unfold okB; rw [decide_eq_true (show 33 ≤ s[p].toNat by omega), decide_eq_true c2, decide_eq_true c3]; simp)
    clear c2 c3
    go_wp2
    go_round
    case rel => exact ⟨p + 1, by go_num, by omega, HO.out⟩
    case measure => simp [intOf]; omega
   ·go_wp2
    go_ret
    exact SameB.mk (by rw [HX.out, ← HF.out, qfL s p hlt])

def SameI (w : World) (n : Int) (e : Ending) (w' : World) : Prop := e = .returned (.int .i64 n) ∧ w = w'
theorem SameI.mk {w : World} {a b : Int} (e : b = a) : SameI w a (.returned (.int .i64 b)) w := ⟨by rw [e], rfl⟩
/-- the place of the first byte of that kind from a place on -/
def qbe (s : ByteArray) (p : Nat) (c : UInt8) : Nat := p + qav c (s.data.toList.drop p)
theorem qef (s : ByteArray) (p : Nat) (h : p < s.size) : s.data.toList.drop p = s[p] :: s.data.toList.drop (p + 1) := by
 rw [List.drop_eq_getElem_cons (by simpa using h)]; rfl
theorem qkQ (s : ByteArray) (p : Nat) (c : UInt8) (h : p < s.size) (hc : s[p] = c) : qbe s p c = p := by
 unfold qbe; rw [qef s p h, qav, if_pos hc]; rfl
theorem qlM (s : ByteArray) (p : Nat) (c : UInt8) (h : p < s.size) (hc : s[p] ≠ c) : qbe s (p + 1) c = qbe s p c := by
 unfold qbe; rw [qef s p h, qav, if_neg hc]; omega
theorem qlv (s : ByteArray) (p : Nat) (c : UInt8) (h : s.size ≤ p) : qbe s p c = p := by
 unfold qbe; rw [List.drop_of_length_le (by simpa using h)]; rfl
theorem qhd (s : ByteArray) (p : Nat) (c : UInt8) (h : p ≤ s.size) : p ≤ qbe s p c ∧ qbe s p c ≤ s.size := by
 unfold qbe
 have := qdf c (s.data.toList.drop p)
 rw [List.length_drop] at this
 have hl : s.data.toList.length = s.size := by simp
 omega

theorem qjh (s : ByteArray) (hs : s.size ≤ 140737488355328) (p0 : Nat) (hp0 : p0 ≤ s.size) (c : UInt8) (w : World) :
  Calls Tryz.prog 194 #[.string s, .int .i64 p0, .int .u8 (c.toNat : Int)] w (SameI w (qbe s p0 c)) := by
 go_enter Tryz.func194, Tryz.ntmps194
 go_wp2
 go_loop [1] (fun i => ∃ p : Nat, i = .int .i64 ↑p ∧ p ≤ s.size ∧ qbe s p c = qbe s p0 c) (fun i => s.size - (intOf i).toNat)
 case atStart => exact ⟨p0, rfl, hp0, rfl⟩
 case round =>
  obtain ⟨p, rfl, hp, hF⟩ := hrel
  have HF := Lib.hid hF; clear hF
  by_cases hlt : p < s.size
  ·have hi1 : (0 : Int) ≤ (p : Int) ∧ (p : Int) < (s.size : Int) := by omega
   by_cases hc : s[p] = c
   ·have HC := Lib.hid (qkQ s p c hlt hc)
    have hd : ((s[p].toNat : Int) != (c.toNat : Int)) = false := by rw [hc]; simp
    clear hc
    go_wp2
    go_ret
    exact SameI.mk (by rw [← HF.out, HC.out])
   ·have HC := Lib.hid (qlM s p c hlt hc)
    have hd : ((s[p].toNat : Int) != (c.toNat : Int)) = true := by
     rw [bne_iff_ne]; intro e; exact hc (UInt8.toNat_inj.1 (by omega))
    clear hc
    go_wp2
    go_round
    case rel => exact ⟨p + 1, by go_num, by omega, by rw [HC.out, HF.out]⟩
    case measure => simp [intOf]; omega
  ·have HC := Lib.hid (qlv s p c (by omega))
   go_wp2
   go_ret
   exact SameI.mk (by rw [← HF.out, HC.out])
open Go.RowKit

theorem qkS (s : ByteArray) (acc : Int) (k : Nat) (h : k < s.size) (hd : isD s[k] = true) : digF acc (s.data.toList.drop k) = digF (10 * acc + ((s[k].toNat : Int) - 48)) (s.data.toList.drop (k + 1)) := by
 rw [qef s k h, digF, if_pos hd]
theorem qlh (s : ByteArray) (acc : Int) (k : Nat) (h : k < s.size) (hd : isD s[k] = false) : digF acc (s.data.toList.drop k) = none := by
 rw [qef s k h, digF, if_neg (by rw [hd]; simp)]
theorem qkv (k : Nat) (h : k < 3) : (10 : Int) ^ k ≤ 100 := by
 match k, h with
 | 0, _ => decide
 | 1, _ => decide
 | 2, _ => decide
theorem qjH (s : ByteArray) (hs : s.size ≤ 140737488355328) (most : Int) (w : World) :
  Calls Tryz.prog 195 #[.string s, .int .i64 most] w (SameI w (decR s.data.toList most)) := by
 have hl : s.data.toList.length = s.size := by simp
 have HT := Lib.hid (show decR s.data.toList most = if s.data.toList.length < 1 ∨ 3 < s.data.toList.length ∨ (1 < s.data.toList.length ∧ s.data.toList.getD 0 0 = 48) then -1
  else match digF 0 s.data.toList with | none => -1 | some n => if most < n then -1 else n from rfl)
 rw [hl] at HT
 clear hl
 by_cases h0 : s.size < 1
 ·have HX : Hid (decR s.data.toList most = -1) := Lib.hid (by rw [HT.out, if_pos (.inl h0)])
  go_enter Tryz.func195, Tryz.ntmps195
  go_wp2
  go_ret
  exact SameI.mk HX.out.symm
 by_cases h3 : 3 < s.size
 ·have HX : Hid (decR s.data.toList most = -1) := Lib.hid (by rw [HT.out, if_pos (.inr (.inl h3))])
  go_enter Tryz.func195, Tryz.ntmps195
  go_wp2
  go_ret
  exact SameI.mk HX.out.symm
 have h1 : 1 ≤ s.size := by omega
 have h3' : s.size ≤ 3 := by omega
 have hg0 : s.data.toList.getD 0 0 = s[0] := by rw [← qed s 0 (by omega)]; exact qdh s 0 0
 rw [hg0] at HT
 clear hg0
 have i0 : (0 : Int) ≤ 0 ∧ (0 : Int) < (s.size : Int) := by omega
 by_cases h2 : 1 < s.size ∧ s[0] = 48
 ·have HX : Hid (decR s.data.toList most = -1) := Lib.hid (by rw [HT.out, if_pos (.inr (.inr h2))])
  obtain ⟨h4, h5⟩ := h2
  have hd : ((s[0].toNat : Int) == 48) = true := by rw [h5]; rfl
  clear h5 h0 h3
  go_enter Tryz.func195, Tryz.ntmps195
  go_wp2
  go_ret
  exact SameI.mk HX.out.symm
 have HT2 : Hid (decR s.data.toList most = match digF 0 (s.data.toList.drop 0) with | none => -1 | some n => if most < n then -1 else n) := Lib.hid (by rw [HT.out, if_neg (by rintro (h | h | h); exact h0 h; exact h3 h; exact h2 h), List.drop_zero])
 clear HT
 have hcase : (s.size : Int) ≤ 1 ∨ (1 < (s.size : Int) ∧ ((s[0].toNat : Int) == 48) = false) := by
  by_cases h : 1 < s.size
  ·right
   refine ⟨by omega, ?_⟩
   rw [beq_eq_false_iff_ne]
   intro e; exact h2 ⟨h, UInt8.toNat_inj.1 (by show s[0].toNat = 48; omega)⟩
  ·left; omega
 clear h2 h0 h3
 rcases hcase with hc | ⟨hc, hd⟩
 all_goals
  go_enter Tryz.func195, Tryz.ntmps195
  go_wp2
  go_loop [5, 6] (fun n i => ∃ (k : Nat) (acc : Int), i = .int .i64 ↑k ∧ n = .int .i64 acc ∧ k ≤ s.size ∧ 0 ≤ acc ∧ acc < 10 ^ k ∧ digF 0 (s.data.toList.drop 0) = digF acc (s.data.toList.drop k)) (fun _ i => s.size - (intOf i).toNat)
  case atStart => exact ⟨0, 0, rfl, rfl, by omega, by omega, by decide, rfl⟩
  case round =>
   obtain ⟨k, acc, rfl, rfl, hk, ha0, ha1, hF⟩ := hrel
   have HF := Lib.hid hF; clear hF
   by_cases hlt : k < s.size
   ·have hi1 : (0 : Int) ≤ (k : Int) ∧ (k : Int) < (s.size : Int) := by omega
    have hp := qkv k (by omega)
    have hb8 := UInt8.toNat_lt s[k]
    by_cases hdg : isD s[k] = true
    ·have HS := Lib.hid (qkS s acc k hlt hdg)
     simp only [isD, Bool.and_eq_true, decide_eq_true_eq] at hdg
     obtain ⟨d1, d2⟩ := hdg
     go_wp2
     go_round
     case rel => exact ⟨k + 1, 10 * acc + ((s[k].toNat : Int) - 48), by go_num, by first | rfl | (congr 1; omega), by omega, by omega, by rw [Int.pow_succ]; omega, by rw [HF.out, HS.out]⟩
     case measure => simp [intOf]; omega
    ·have hdf : isD s[k] = false := by simpa using hdg
     have HS := Lib.hid (qlh s acc k hlt hdf)
     have HX : Hid (decR s.data.toList most = -1) := Lib.hid (by rw [HT2.out, HF.out, HS.out])
     have hor : s[k].toNat < 48 ∨ 57 < s[k].toNat := by
      simp only [isD, Bool.and_eq_true, decide_eq_true_eq] at hdg; omega
     clear hdg hdf
     rcases hor with d1 | d1
     ·go_wp2
      go_ret
      exact SameI.mk HX.out.symm
     ·go_wp2
      go_ret
      exact SameI.mk HX.out.symm
   ·have HX : Hid (decR s.data.toList most = if most < acc then -1 else acc) := Lib.hid (by
     have hn : s.data.toList.drop k = [] := List.drop_of_length_le (by simp; omega)
     rw [HT2.out, HF.out, hn, digF])
    by_cases hma : most < acc
    ·rw [if_pos hma] at HX
     go_wp2
     go_ret
     exact SameI.mk HX.out.symm
    ·rw [if_neg hma] at HX
     go_wp2
     go_ret
     exact SameI.mk HX.out.symm
open Go.RowKit

def SameA (w : World) (o : Option Int) (e : Ending) (w' : World) : Prop := e = .returned (.tuple #[.int .u32 (o.getD 0), .bool o.isSome]) ∧ w = w'
theorem SameA.no {w : World} {o : Option Int} (e : o = none) : SameA w o (.returned (.tuple #[.int .u32 0, .bool false])) w := ⟨by rw [e]; rfl, rfl⟩
theorem SameA.yes {w : World} {o : Option Int} {a : Int} (e : o = some a) : SameA w o (.returned (.tuple #[.int .u32 a, .bool true])) w := ⟨by rw [e]; rfl, rfl⟩
theorem qew (s : ByteArray) (a b : Nat) : (s.extract a b).data.toList = (s.data.toList.drop a).take (b - a) := by
 simp [ByteArray.data_extract, Array.toList_extract, List.extract_eq_take_drop]
theorem or_st' (acc n : Int) (h0 : 0 ≤ acc) (h1 : acc < 16777216) (h2 : 0 ≤ n) (h3 : n ≤ 255) : bits .or .u32 (acc * 256) n = stA acc n := by
 rw [← qmY acc n h0 h1 h2 h3, Int.emod_eq_of_lt (by omega) (by omega)]
def qov (s : ByteArray) (x f k : Value) : Prop := ∃ (j p : Nat) (acc : Int), x = .int .u32 acc ∧ f = .int .i64 ↑p ∧ k = .int .i64 ↑j ∧ j ≤ 4 ∧ 0 ≤ acc ∧ acc < 256 ^ j ∧
 ((j < 4 ∧ p ≤ s.size ∧ adr s = qbN stA (3 - j) acc (s.data.toList.drop p)) ∨ (j = 4 ∧ adr s = some acc))
theorem qjY (st : Int → Int → Int) (k : Nat) (acc : Int) (l : List UInt8) : qbN st (k + 1) acc l = if decR (l.take (qav 46 l)) 255 < 0 ∨ qav 46 l = l.length then none else qbN st k (st acc (decR (l.take (qav 46 l)) 255)) (l.drop (qav 46 l + 1)) := rfl
theorem qlC (s : ByteArray) (p : Nat) (acc : Int) : qbN stA 0 acc (s.data.toList.drop p) =
  if decR (s.extract p (qbe s p 46)).data.toList 255 < 0 ∨ qbe s p 46 - p ≠ s.size - p then none else some (stA acc (decR (s.extract p (qbe s p 46)).data.toList 255)) := by
 rw [qew]; unfold qbe qbN
 rw [Nat.add_sub_cancel_left, List.length_drop]
 simp
theorem qlW (s : ByteArray) (p m : Nat) (acc : Int) : qbN stA (m + 1) acc (s.data.toList.drop p) =
  if decR (s.extract p (qbe s p 46)).data.toList 255 < 0 ∨ qbe s p 46 - p = s.size - p then none else qbN stA m (stA acc (decR (s.extract p (qbe s p 46)).data.toList 255)) (s.data.toList.drop (qbe s p 46 + 1)) := by
 rw [qew, qjY]; unfold qbe
 rw [Nat.add_sub_cancel_left, List.length_drop, List.drop_drop]
 simp [Nat.add_assoc]

theorem qki (s : ByteArray) (hs : s.size ≤ 140737488355327) (w : World) :
  Calls Tryz.prog 152 #[.string s] w (SameA w (adr s)) := by
 have hA : adr s = qbN stA 3 0 (s.data.toList.drop 0) := by rw [List.drop_zero]; exact qiW stA _
 have HA := Lib.hid hA; clear hA
 go_enter Tryz.func152, Tryz.ntmps152
 go_wp2
 go_loop [4, 5, 6] (qov s) (fun _ _ k => 4 - (intOf k).toNat)
 case atStart => exact ⟨0, 0, 0, rfl, rfl, rfl, by omega, by omega, by decide, .inl ⟨by omega, by omega, HA.out⟩⟩
 case round =>
  obtain ⟨j, p, acc, rfl, rfl, rfl, hj, ha0, ha1, hF⟩ := hrel
  by_cases hlt : j < 4
  ·obtain ⟨hp, hF⟩ : p ≤ s.size ∧ adr s = qbN stA (3 - j) acc (s.data.toList.drop p) := by
    rcases hF with h | h
    ·exact h.2
    ·omega
   have HF := Lib.hid hF; clear hF
   have hpw := qiR j hlt
   have hq := qhd s p 46 hp
   have cC := fun W => qjh s (by omega) p hp 46 W
   rw [show (((46 : UInt8).toNat : Nat) : Int) = 46 from rfl] at cC
   have hxs : (s.extract p (qbe s p 46)).size ≤ 140737488355328 := by rw [ByteArray.size_extract]; omega
   have cD := fun W => qjH (s.extract p (qbe s p 46)) hxs 255 W
   have hr := qfI (s.extract p (qbe s p 46)).data.toList 255 (by omega)
   have HL := Lib.hid (qlC s p acc)
   have HN := Lib.hid (fun m => qlW s p m acc)
   clear hxs
   generalize qbe s p 46 = q at *
   obtain ⟨q1, q2⟩ := hq
   generalize hx : s.extract p q = x at *
   have HX := Lib.hid hx; clear hx
   generalize decR x.data.toList 255 = n at *
   by_cases hn : n < 0
   ·have HZ : Hid (adr s = none) := Lib.hid (by
     rw [HF.out]
     by_cases h3 : j = 3
     ·subst h3; rw [HL.out, if_pos (.inl hn)]
     ·rw [show 3 - j = (2 - j) + 1 by omega, HN.out, if_pos (.inl hn)])
    go_wp2_with fail
    refine (cC _).mono ?_
    rintro e w1 ⟨rfl, rfl⟩
    go_wp2_with fail
    rw [HX.out]
    refine (cD _).mono ?_
    rintro e w1 ⟨rfl, rfl⟩
    go_wp2
    go_ret2
    exact SameA.no HZ.out
   ·have hn0 : 0 ≤ n := by omega
    obtain ⟨_, hn9⟩ := hr
    clear hn
    by_cases h3 : j = 3
    ·subst h3
     by_cases hqs : q = s.size
     ·have HZ : Hid (adr s = some (stA acc n)) := Lib.hid (by rw [HF.out, HL.out, if_neg (by rintro (h | h); omega; omega)])
      have hd : ((q : Int) == (s.size : Int)) = true := by simp; omega
      clear hqs hF HN
      go_wp2_with fail
      refine (cC _).mono ?_
      rintro e w1 ⟨rfl, rfl⟩
      go_wp2_with fail
      rw [HX.out]
      refine (cD _).mono ?_
      rintro e w1 ⟨rfl, rfl⟩
      go_wp2
      exact ⟨⟨4, q + 1, stA acc n, by rw [or_st' acc n ha0 (by omega) hn0 hn9], by go_num, rfl, by omega, by unfold stA; omega, by unfold stA; rw [Int.pow_succ]; omega, .inr ⟨rfl, HZ.out⟩⟩, by simp [intOf]⟩
     ·have HZ : Hid (adr s = none) := Lib.hid (by rw [HF.out, HL.out, if_pos (.inr (by omega))])
      have hd : ((q : Int) == (s.size : Int)) = false := by simp; omega
      clear hqs hF HN
      go_wp2_with fail
      refine (cC _).mono ?_
      rintro e w1 ⟨rfl, rfl⟩
      go_wp2_with fail
      rw [HX.out]
      refine (cD _).mono ?_
      rintro e w1 ⟨rfl, rfl⟩
      go_wp2
      go_ret2
      exact SameA.no HZ.out
    ·have hj3 : ((j : Int) == 3) = false := by simp; omega
     by_cases hqs : q = s.size
     ·have HZ : Hid (adr s = none) := Lib.hid (by rw [HF.out, show 3 - j = (2 - j) + 1 by omega, HN.out, if_pos (.inr (by omega))])
      have hd : ((q : Int) == (s.size : Int)) = true := by simp; omega
      clear hqs HN h3
      go_wp2_with fail
      refine (cC _).mono ?_
      rintro e w1 ⟨rfl, rfl⟩
      go_wp2_with fail
      rw [HX.out]
      refine (cD _).mono ?_
      rintro e w1 ⟨rfl, rfl⟩
      go_wp2
      go_ret2
      exact SameA.no HZ.out
     ·have HZ : Hid (adr s = qbN stA (3 - (j + 1)) (stA acc n) (s.data.toList.drop (q + 1))) := Lib.hid (by rw [HF.out, show 3 - j = (2 - j) + 1 by omega, HN.out, if_neg (by rintro (h | h); omega; omega)]; congr 1; omega)
      have hd : ((q : Int) == (s.size : Int)) = false := by simp; omega
      have hql : q + 1 ≤ s.size := by omega
      have hj4 : j + 1 < 4 := by omega
      clear hqs HN h3
      go_wp2_with fail
      refine (cC _).mono ?_
      rintro e w1 ⟨rfl, rfl⟩
      go_wp2_with fail
      rw [HX.out]
      refine (cD _).mono ?_
      rintro e w1 ⟨rfl, rfl⟩
      go_wp2
      exact ⟨⟨j + 1, q + 1, stA acc n, by rw [or_st' acc n ha0 (by omega) hn0 hn9], by go_num, by go_num, by omega, by unfold stA; omega, by unfold stA; rw [Int.pow_succ]; omega, .inl ⟨hj4, hql, HZ.out⟩⟩, by simp [intOf]; omega⟩
  ·have HZ : Hid (adr s = some acc) := Lib.hid (by rcases hF with h | h; omega; exact h.2)
   clear hF
   go_wp2
   go_ret2
   exact SameA.yes HZ.out

theorem qjq (s : ByteArray) (c : UInt8) : qbe s 0 c = qav c s.data.toList := by unfold qbe; simp

open Go.RowKit

theorem qgU (s : ByteArray) (hs : s.size ≤ 140737488355327) (w : World) :
  Calls Tryz.prog 151 #[.string s] w (SameB w (qaN s && qbP s)) := by
 have hq := qhd s 0 58 (by omega)
 have cC := fun W => qjh s (by omega) 0 (by omega) 58 W
 rw [show (((58 : UInt8).toNat : Nat) : Int) = 58 from rfl] at cC
 have cT := fun W => qfe s (by omega) W
 have HD := Lib.hid (show qbP s = (decide (0 < qbe s 0 58) && decide (qbe s 0 58 < s.size)) by rw [qjq]; rfl)
 generalize qbe s 0 58 = q at *
 cases ht : qaN s with
 | false =>
  rw [ht] at cT
  have HT := Lib.hid ht; clear ht
  go_enter Tryz.func151, Tryz.ntmps151
  go_wp2_with fail
  refine (cC _).mono ?_
  rintro e w1 ⟨rfl, rfl⟩
  go_wp2_with fail
  refine (cT _).mono ?_
  rintro e w1 ⟨rfl, rfl⟩
  go_wp2
  go_ret
  exact SameB.mk rfl
 | true =>
  rw [ht] at cT
  have HT := Lib.hid ht; clear ht
  by_cases h0 : 0 < q
  ·by_cases h1 : q < s.size
   all_goals
    go_enter Tryz.func151, Tryz.ntmps151
    go_wp2_with fail
    refine (cC _).mono ?_
    rintro e w1 ⟨rfl, rfl⟩
    go_wp2_with fail
    refine (cT _).mono ?_
    rintro e w1 ⟨rfl, rfl⟩
    go_wp2
    go_ret
    exact SameB.mk (by rw [HD.out]; simp [h0, h1])
  ·go_enter Tryz.func151, Tryz.ntmps151
   go_wp2_with fail
   refine (cC _).mono ?_
   rintro e w1 ⟨rfl, rfl⟩
   go_wp2_with fail
   refine (cT _).mono ?_
   rintro e w1 ⟨rfl, rfl⟩
   go_wp2
   go_ret
   exact SameB.mk (by rw [HD.out]; simp [h0])

theorem qhW (s t : ByteArray) (ht : t.size ≤ 140737488355327) (w : World) :
  Calls Tryz.prog 121 #[.agg #[.string s, .string t]] w (RetB w (qbb (s, t))) := by
 have HR := Lib.hid (qkj s t)
 have hb0 : Below w.heap.size w (w.alloc (.cells #[.string s, .string t] 155)) := (Below.refl _ w).alloc (Nat.le_refl _) _
 have f1 := qfW s; have f2 := qkA s; have f3 := qgx s
 by_cases e1 : s = qbO
 ·have HV : Hid (qbb (s, t) = (qaN t && qbP t)) := Lib.hid (by rw [HR.out, if_pos e1])
  rw [decide_eq_true e1] at f1
  have cD := fun W => qgU t ht W
  clear e1 f2 f3 HR
  generalize (qaN t && qbP t) = b at *
  go_enter Tryz.func121, Tryz.ntmps121
  go_wp2_with fail
  refine (cD _).mono ?_
  rintro e w1 ⟨rfl, rfl⟩
  go_wp2
  go_ret
  exact RetB.mk hb0 HV.out.symm
 rw [decide_eq_false e1] at f1
 by_cases e2 : s = sIp
 ·have HV : Hid (qbb (s, t) = (adr t).isSome) := Lib.hid (by rw [HR.out, if_neg e1, if_pos e2])
  rw [decide_eq_true e2] at f2
  have cD := fun W => qki t ht W
  unfold SameA at cD
  clear e1 e2 f3 HR
  generalize (adr t).isSome = b at *
  generalize (adr t).getD 0 = a at *
  go_enter Tryz.func121, Tryz.ntmps121
  go_wp2_with fail
  refine (cD _).mono ?_
  rintro e w1 ⟨rfl, rfl⟩
  go_wp2
  go_ret
  exact RetB.mk hb0 HV.out.symm
 rw [decide_eq_false e2] at f2
 by_cases e3 : s = qcw
 ·have HV : Hid (qbb (s, t) = qaN t) := Lib.hid (by rw [HR.out, if_neg e1, if_neg e2, decide_eq_true e3, Bool.true_and])
  rw [decide_eq_true e3] at f3
  have cD := fun W => qfe t (by omega) W
  clear e1 e2 e3 HR
  generalize qaN t = b at *
  go_enter Tryz.func121, Tryz.ntmps121
  go_wp2_with fail
  refine (cD _).mono ?_
  rintro e w1 ⟨rfl, rfl⟩
  go_wp2
  go_ret
  exact RetB.mk hb0 HV.out.symm
 ·have HV : Hid (qbb (s, t) = false) := Lib.hid (by rw [HR.out, if_neg e1, if_neg e2, decide_eq_false e3, Bool.false_and])
  rw [decide_eq_false e3] at f3
  clear e1 e2 e3 HR
  go_enter Tryz.func121, Tryz.ntmps121
  go_wp2
  go_ret
  exact RetB.mk hb0 HV.out.symm

open Go.RowKit Go.MapKept Go.Maps
def qmC (t : RsT) (w : World) (e : Ending) (w' : World) : Prop := (∃ h', e = .returned (rsV h') ∧ RsAt w' (w.heap.size ≤ ·) h' t ∧ RsNf w' (w.heap.size ≤ ·) h') ∧ Below w.heap.size w w'
/-- the loop's state, and that the rows may be written -/
structure ClRrN (w : World) (h' : RsH) (v : RsF) (subs : List RsT) (n gs hi : Nat) (Z : Array Value) (k : Nat) (wr : World) : Prop extends ClRr w h' v subs n gs hi Z k wr where
 nm : SlN wr (fun b => w.heap.size + 2 ≤ b ∧ b ≠ gs) 1 h'.m
theorem ClRrN.step {w : World} {h' : RsH} {v : RsF} {subs : List RsT} {n gs hi : Nat} {Z : Array Value} {k : Nat} {wr w2 : World} (H : ClRrN w h' v subs n gs hi Z k wr) (hb : Below wr.heap.size wr w2) {hh : RsH} (ht : RsAt w2 (wr.heap.size ≤ ·) hh subs[k]!) (hk : k < n) (hgs : gs < hi) (hB : w.heap.size + 2 ≤ gs) :
  ClRrN w h' v subs n gs hi Z (k + 1) (w2.setCells gs (k * 22) (qax hh)) where
 toClRr := H.toClRr.step hb ht hk hgs hB
 nm := (H.nm.later hb (by decide)).fr (qaB w2 gs (k * 22) (qax hh)) (fun b _ h => ⟨by simpa using h.2, h⟩) (by decide)
theorem qhE : ∀ (t : RsT) (h : RsH) (w : World) (R : Nat → Prop), RsAt w R h t → RsOk 1048576 t → Calls Tryz.prog 141 #[rsV h] w (qmC t w) := by
 refine Tr.ind ?_
 intro v subs ih h w R ht0 hok
 have ht : RsAt w (· < w.heap.size) h (.mk v subs) := ht0.more (fun b hb _ => hb)
 have hl := ht.loc
 obtain ⟨L, hL, hsub⟩ := ht.subs_at
 have hlen := ht.len
 have hsm := hok.top
 have HS := Lib.hid (CnSt.start w (rwRs h) rzRs 59)
 have HCd := Lib.hid (fun (W : World) (hW : Below w.heap.size w W) => qen h.d.1 h.d.2.1 h.d.2.2 v.data W ((hl.2.1.sl (fun _ => by simp [enc8])).belowMore hW hW.size) hl.2.1.hd.1 (by have h1 := hsm.2.2.1; have h2 := hl.2.1.1; simp only [Tr.v, Tr.subs] at *; omega))
 have HLd := Lib.hid hl.2.1.len
 have HCa := Lib.hid (fun (W : World) (hW : Below w.heap.size w W) => qcF h.a.1 h.a.2.1 h.a.2.2 v.acl W ((hl.2.2.1.sl (fun _ => by simp [qao])).belowMore hW hW.size) hl.2.2.1.hd.1 (by have h1 := hsm.2.2.2.1; have h2 := hl.2.2.1.1; simp only [Tr.v, Tr.subs] at *; omega))
 have HLa := Lib.hid hl.2.2.1.len
 have HCm := Lib.hid (fun (W : World) (hW : Below w.heap.size w W) => qcO h.m.1 h.m.2.1 h.m.2.2 v.names W ((hl.2.2.2.1.sl (fun _ => by simp [qay])).belowMore hW hW.size) hl.2.2.2.1.hd.1 (by have h1 := hsm.2.2.2.2.1; have h2 := hl.2.2.2.1.1; simp only [Tr.v, Tr.subs] at *; omega))
 have HLm := Lib.hid hl.2.2.2.1.len
 have HCi := Lib.hid (fun (W : World) (hW : Below w.heap.size w W) => qcK h.i.1 h.i.2.1 h.i.2.2 v.ids W ((hl.2.2.2.2.sl (fun _ => by simp [qaz])).belowMore hW hW.size) hl.2.2.2.2.hd.1 (by have h1 := hsm.2.2.2.2.2.1; have h2 := hl.2.2.2.2.1; simp only [Tr.v, Tr.subs] at *; omega))
 have HLi := Lib.hid hl.2.2.2.2.len
 have HCs := Lib.hid (fun (W : World) (hW : Below w.heap.size w W) => qeX h.s.1 h.s.2.1 h.s.2.2 L W ((hL.sl (fun _ => by simp [qax])).belowMore hW hW.size) hL.hd.1 (Nat.le_trans (show h.s.2.1 ≤ 1048576 by have h1 := hsm.2.2.2.2.2.2.1; rw [hlen] at h1; exact h1) (by omega)))
 have HLs := Lib.hid hL.len
 have HSUB := Lib.hid hsub; have HLEN := Lib.hid (show subs.length = h.s.2.1 from hlen); have HN := Lib.hid hl.1
 have HIH := Lib.hid (fun (j : Nat) (_ : j < subs.length) => qfh subs[j]!); have HOK := Lib.hid (fun k (hk : k < subs.length) => hok.subAt (j := k) hk)
 have HSB := Lib.hid (show h.s.2.1 ≤ 1048576 by have h1 := hsm.2.2.2.2.2.2.1; rw [hlen] at h1; exact h1)
 clear ht0 ht hl hL hsub hlen hsm ih hok
 go_enter Tryz.func141, Tryz.ntmps141
 go_wp2_with (first
  | (apply qai 59 59; exact rfl; exact rfl; exact rfl; (first | (with_reducible rfl) | (exact sz1 _ _) | (exact sz2 _ _ _) | (exact sz3 _ _ _ _)); exact rfl; exact qbk; exact rfl; simp [Value.oneCell'])
  | fail)
 generalize ((w.alloc (.cells (rwRs h) 59)).alloc (.cells rzRs 59)) = V at *
 replace HS := Lib.hid (HS.out.call (qaj V))
 have HSO := Lib.hid (fun (W : World) (hW : Below V.drew.heap.size V.drew W) => (show (fun w' : World => w'.cell? ⟨w.heap.size, 14, none⟩ = some (slV h.d) ∧ w'.cell? ⟨w.heap.size, 15, none⟩ = some (slV h.a) ∧ w'.cell? ⟨w.heap.size, 16, none⟩ = some (slV h.m) ∧ w'.cell? ⟨w.heap.size, 20, none⟩ = some (slV h.i)) W from ⟨(HS.out.call hW).cell rfl, (HS.out.call hW).cell rfl, (HS.out.call hW).cell rfl, (HS.out.call hW).cell rfl⟩))
 refine qaP (S := fun w' => w'.cell? ⟨w.heap.size, 14, none⟩ = some (slV h.d) ∧ w'.cell? ⟨w.heap.size, 15, none⟩ = some (slV h.a) ∧ w'.cell? ⟨w.heap.size, 16, none⟩ = some (slV h.m) ∧ w'.cell? ⟨w.heap.size, 20, none⟩ = some (slV h.i)) 13 (by kernel_rfl) (HSO.out _ (Below.refl _ _)) (fun hHeld => ?_)
 generalize V.drew = V0 at *
 refine qad (i := 0) (v := .pointer (some ⟨w.heap.size, 14, none⟩)) rfl (by kernel_rfl) (fun _ _ _ h => h) (Or.inl ⟨by rfl, by intro w hSw; clear hSw; go_simp⟩) (by assumption) ?_
 (try simp only [pT])
 refine qad (i := 1) (v := slV h.d) rfl (by kernel_rfl) (fun _ _ _ h => h) (Or.inl ⟨by rfl, by intro w hSw; have hSx := hSw.1; clear hSw; go_simp⟩) (by assumption) ?_
 (try simp only [pT])
 refine qad (i := 3) (v := .pointer (some ⟨w.heap.size, 15, none⟩)) rfl (by kernel_rfl) (fun _ _ _ h => h) (Or.inl ⟨by rfl, by intro w hSw; clear hSw; go_simp⟩) (by assumption) ?_
 (try simp only [pT])
 refine qad (i := 4) (v := slV h.a) rfl (by kernel_rfl) (fun _ _ _ h => h) (Or.inl ⟨by rfl, by intro w hSw; have hSx := hSw.2.1; clear hSw; go_simp⟩) (by assumption) ?_
 (try simp only [pT])
 refine qad (i := 6) (v := .pointer (some ⟨w.heap.size, 16, none⟩)) rfl (by kernel_rfl) (fun _ _ _ h => h) (Or.inl ⟨by rfl, by intro w hSw; clear hSw; go_simp⟩) (by assumption) ?_
 (try simp only [pT])
 refine qad (i := 7) (v := slV h.m) rfl (by kernel_rfl) (fun _ _ _ h => h) (Or.inl ⟨by rfl, by intro w hSw; have hSx := hSw.2.2.1; clear hSw; go_simp⟩) (by assumption) ?_
 (try simp only [pT])
 refine qad (i := 9) (v := .pointer (some ⟨w.heap.size, 18, none⟩)) rfl (by kernel_rfl) (fun _ _ _ h => h) (Or.inl ⟨by rfl, by intro w hSw; clear hSw; go_simp⟩) (by assumption) ?_
 (try simp only [pT])
 refine qad (i := 10) (v := .pointer (some ⟨w.heap.size, 20, none⟩)) rfl (by kernel_rfl) (fun _ _ _ h => h) (Or.inl ⟨by rfl, by intro w hSw; clear hSw; go_simp⟩) (by assumption) ?_
 (try simp only [pT])
 refine qad (i := 11) (v := slV h.i) rfl (by kernel_rfl) (fun _ _ _ h => h) (Or.inl ⟨by rfl, by intro w hSw; have hSx := hSw.2.2.2; clear hSw; go_simp⟩) (by assumption) ?_
 (try simp only [pT])
 refine qaq (i := 2) rfl (by kernel_rfl) (fun K hK => ?_)
 go_simp
 refine (HCd.out _ HS.out.b).mono ?_
 rintro e w0 ⟨⟨A0, c0, rfl, hr⟩, hb⟩
 dsimp only
 have HRd := Lib.hid (CloneP.slr hr (fun _ => rfl) HLd.out HS.out.s)
 replace HSO := Lib.hid (fun (W : World) (hW : Below w0.heap.size w0 W) => HSO.out W (hb.trans (hW.mono hb.size)))
 replace HS := Lib.hid (HS.out.call hb)
 replace hHeld := HSO.out _ (Below.refl _ _)
 refine hK.out _ _ hHeld ?_
 clear hK K hr hb
 (try simp only [pT])
 refine qad (i := 13) (v := .pointer (some ⟨w.heap.size, 14, none⟩)) rfl (by kernel_rfl) (fun _ _ _ h => h) (Or.inl ⟨by rfl, by intro w hSw; clear hSw; go_simp⟩) (by assumption) ?_
 (try simp only [pT])
 refine qaq (i := 5) rfl (by kernel_rfl) (fun K hK => ?_)
 go_simp
 refine (HCa.out _ HS.out.b).mono ?_
 rintro e w1 ⟨⟨A1, c1, rfl, hr⟩, hb⟩
 dsimp only
 have HRa := Lib.hid (CloneP.slr hr (fun _ => rfl) HLa.out HS.out.s)
 replace HRd := Lib.hid (HRd.out.later hb (fun _ => by simp [enc8]))
 replace HSO := Lib.hid (fun (W : World) (hW : Below w1.heap.size w1 W) => HSO.out W (hb.trans (hW.mono hb.size)))
 replace HS := Lib.hid (HS.out.call hb)
 replace hHeld := HSO.out _ (Below.refl _ _)
 refine hK.out _ _ hHeld ?_
 clear hK K hr hb
 (try simp only [pT])
 refine qaq (i := 8) rfl (by kernel_rfl) (fun K hK => ?_)
 go_simp
 refine (HCm.out _ HS.out.b).mono ?_
 rintro e w2 ⟨⟨A2, c2, rfl, hr⟩, hb⟩
 dsimp only
 have HRm := Lib.hid (CloneP.slr hr (fun _ => rfl) HLm.out HS.out.s)
 have HNm := Lib.hid (SlN.own hr HS.out.s)
 replace HRd := Lib.hid (HRd.out.later hb (fun _ => by simp [enc8]))
 replace HRa := Lib.hid (HRa.out.later hb (fun _ => by simp [qao]))
 replace HSO := Lib.hid (fun (W : World) (hW : Below w2.heap.size w2 W) => HSO.out W (hb.trans (hW.mono hb.size)))
 replace HS := Lib.hid (HS.out.call hb)
 replace hHeld := HSO.out _ (Below.refl _ _)
 refine hK.out _ _ hHeld ?_
 clear hK K hr hb
 (try simp only [pT])
 refine qaq (i := 12) rfl (by kernel_rfl) (fun K hK => ?_)
 go_simp
 refine (HCi.out _ HS.out.b).mono ?_
 rintro e w3 ⟨⟨A3, c3, rfl, hr⟩, hb⟩
 dsimp only
 have HRi := Lib.hid (CloneP.slr hr (fun _ => rfl) HLi.out HS.out.s)
 replace HRd := Lib.hid (HRd.out.later hb (fun _ => by simp [enc8]))
 replace HRa := Lib.hid (HRa.out.later hb (fun _ => by simp [qao]))
 replace HRm := Lib.hid (HRm.out.later hb (fun _ => by simp [qay]))
 replace HNm := Lib.hid (HNm.out.later hb (by decide))
 replace HSO := Lib.hid (fun (W : World) (hW : Below w3.heap.size w3 W) => HSO.out W (hb.trans (hW.mono hb.size)))
 replace HS := Lib.hid (HS.out.call hb)
 replace hHeld := HSO.out _ (Below.refl _ _)
 refine hK.out _ _ hHeld ?_
 clear hK K hr hb
 (try simp only [pT])
 refine qaG (n := 14) (by kernel_rfl) ?_
 simp only [List.drop_succ_cons, List.drop_zero]
 have z14 := HS.out.cell (i := 14) (v := slV h.d) rfl
 have f14 := HS.out.frz 14
 have z15 := HS.out.cell (i := 15) (v := slV h.a) rfl
 have f15 := HS.out.frz 15
 have z16 := HS.out.cell (i := 16) (v := slV h.m) rfl
 have f16 := HS.out.frz 16
 have z20 := HS.out.cell (i := 20) (v := slV h.i) rfl
 have f20 := HS.out.frz 20
 have z21 := HS.out.cell (i := 21) (v := slV h.s) rfl
 clear hHeld HSO
 go_wp2_with fail
 replace HS := Lib.hid (HS.out.set 14 (.slice A0 h.d.2.1 c0))
 replace HRd := Lib.hid (HRd.out.put (fun _ => by simp [enc8]) 14 (.slice A0 h.d.2.1 c0))
 replace HRa := Lib.hid (HRa.out.put (fun _ => by simp [qao]) 14 (.slice A0 h.d.2.1 c0))
 replace HRm := Lib.hid (HRm.out.put (fun _ => by simp [qay]) 14 (.slice A0 h.d.2.1 c0))
 replace HNm := Lib.hid (HNm.out.put (by decide) 14 (.slice A0 h.d.2.1 c0))
 replace HRi := Lib.hid (HRi.out.put (fun _ => by simp [qaz]) 14 (.slice A0 h.d.2.1 c0))
 replace HS := Lib.hid (HS.out.set 15 (.slice A1 h.a.2.1 c1))
 replace HRd := Lib.hid (HRd.out.put (fun _ => by simp [enc8]) 15 (.slice A1 h.a.2.1 c1))
 replace HRa := Lib.hid (HRa.out.put (fun _ => by simp [qao]) 15 (.slice A1 h.a.2.1 c1))
 replace HRm := Lib.hid (HRm.out.put (fun _ => by simp [qay]) 15 (.slice A1 h.a.2.1 c1))
 replace HNm := Lib.hid (HNm.out.put (by decide) 15 (.slice A1 h.a.2.1 c1))
 replace HRi := Lib.hid (HRi.out.put (fun _ => by simp [qaz]) 15 (.slice A1 h.a.2.1 c1))
 replace HS := Lib.hid (HS.out.set 16 (.slice A2 h.m.2.1 c2))
 replace HRd := Lib.hid (HRd.out.put (fun _ => by simp [enc8]) 16 (.slice A2 h.m.2.1 c2))
 replace HRa := Lib.hid (HRa.out.put (fun _ => by simp [qao]) 16 (.slice A2 h.m.2.1 c2))
 replace HRm := Lib.hid (HRm.out.put (fun _ => by simp [qay]) 16 (.slice A2 h.m.2.1 c2))
 replace HNm := Lib.hid (HNm.out.put (by decide) 16 (.slice A2 h.m.2.1 c2))
 replace HRi := Lib.hid (HRi.out.put (fun _ => by simp [qaz]) 16 (.slice A2 h.m.2.1 c2))
 replace HS := Lib.hid (HS.out.set 20 (.slice A3 h.i.2.1 c3))
 replace HRd := Lib.hid (HRd.out.put (fun _ => by simp [enc8]) 20 (.slice A3 h.i.2.1 c3))
 replace HRa := Lib.hid (HRa.out.put (fun _ => by simp [qao]) 20 (.slice A3 h.i.2.1 c3))
 replace HRm := Lib.hid (HRm.out.put (fun _ => by simp [qay]) 20 (.slice A3 h.i.2.1 c3))
 replace HNm := Lib.hid (HNm.out.put (by decide) 20 (.slice A3 h.i.2.1 c3))
 replace HRi := Lib.hid (HRi.out.put (fun _ => by simp [qaz]) 20 (.slice A3 h.i.2.1 c3))
 replace HS := Lib.hid (show CnSt w ((((w3.setCell ⟨w.heap.size, 14, none⟩ (.slice A0 h.d.2.1 c0)).setCell ⟨w.heap.size, 15, none⟩ (.slice A1 h.a.2.1 c1)).setCell ⟨w.heap.size, 16, none⟩ (.slice A2 h.m.2.1 c2)).setCell ⟨w.heap.size, 20, none⟩ (.slice A3 h.i.2.1 c3)) #[.int .i32 h.n.ty, .int .i32 h.n.co, .string h.n.path, .int .i64 h.n.q.a, .int .i64 h.n.q.b, .int .i64 h.n.q.c, .int .i64 h.n.q.d, .int .i32 h.n.q.e, .int .i32 h.n.q.f, .int .i32 h.n.q.g, .int .i64 h.n.q.h, .int .i32 h.n.q.i, .int .i32 h.n.q.j, .int .i64 h.n.q.k, .slice A0 h.d.2.1 c0, .slice A1 h.a.2.1 c1, .slice A2 h.m.2.1 c2, .int .i32 h.n.ct, .int .i64 h.n.si, .int .i32 h.n.st, .slice A3 h.i.2.1 c3, slV h.s] _ _ from HS.out)
 generalize ((((w3.setCell ⟨w.heap.size, 14, none⟩ (.slice A0 h.d.2.1 c0)).setCell ⟨w.heap.size, 15, none⟩ (.slice A1 h.a.2.1 c1)).setCell ⟨w.heap.size, 16, none⟩ (.slice A2 h.m.2.1 c2)).setCell ⟨w.heap.size, 20, none⟩ (.slice A3 h.i.2.1 c3)) = V4 at *
 clear z14 f14 z15 f15 z16 f16 z20 f20 z21
 refine (HCs.out _ HS.out.b).mono ?_
 rintro e w4 ⟨⟨A4, c4, rfl, hr⟩, hb⟩
 have HRs := Lib.hid hr; have HSZ4 := Lib.hid (show w.heap.size + 2 ≤ V4.heap.size from HS.out.s); have HBX4 := Lib.hid hb
 replace HRd := Lib.hid (HRd.out.fr (R' := fun b => w.heap.size + 2 ≤ b ∧ b < V4.heap.size) (Fr.of_below (own := []) hb) (fun b hlt h => ⟨by simp, h, hlt⟩) (fun _ => by simp [enc8]))
 replace HRa := Lib.hid (HRa.out.fr (R' := fun b => w.heap.size + 2 ≤ b ∧ b < V4.heap.size) (Fr.of_below (own := []) hb) (fun b hlt h => ⟨by simp, h, hlt⟩) (fun _ => by simp [qao]))
 replace HRm := Lib.hid (HRm.out.fr (R' := fun b => w.heap.size + 2 ≤ b ∧ b < V4.heap.size) (Fr.of_below (own := []) hb) (fun b hlt h => ⟨by simp, h, hlt⟩) (fun _ => by simp [qay]))
 replace HNm := Lib.hid (HNm.out.fr (R' := fun b => w.heap.size + 2 ≤ b ∧ b < V4.heap.size) (Fr.of_below (own := []) hb) (fun b hlt h => ⟨by simp, h, hlt⟩) (by decide))
 replace HRi := Lib.hid (HRi.out.fr (R' := fun b => w.heap.size + 2 ≤ b ∧ b < V4.heap.size) (Fr.of_below (own := []) hb) (fun b hlt h => ⟨by simp, h, hlt⟩) (fun _ => by simp [qaz]))
 replace HS := Lib.hid (HS.out.call hb)
 have z4 := HS.out.cell (i := 21) (v := slV h.s) rfl
 have f4 := HS.out.frz 21
 clear hr hb
 go_wp2_with fail
 obtain ⟨hA, hnc, gs, hgs, hgA, hst⟩ := ClSt.start kRsOk (B := w.heap.size) (subs := subs) HRs.out HLs.out (fun j hj => (HSUB.out j hj).fr kRsOk (Fr.of_below (own := []) HS.out.b) (fun b hlt _ => ⟨by simp, hlt⟩))
 have hst' := hst.other kRsOk (qaE w4 w.heap.size 21 (.slice A4 h.s.2.1 c4)) (World.there_setCells hst.th w.heap.size 21 [.slice A4 h.s.2.1 c4]) (by have := HSZ4.out; simp; omega) (fun g hg => by have := HS.out.s; simp at hg; omega)
 have HR0 := Lib.hid (show ClRrN w ⟨h.n, (A0, h.d.2.1, c0), (A1, h.a.2.1, c1), (A2, h.m.2.1, c2), (A3, h.i.2.1, c3), (A4, h.s.2.1, c4)⟩ v subs h.s.2.1 gs w4.heap.size _ 0 (w4.setCell ⟨w.heap.size, 21, none⟩ (.slice A4 h.s.2.1 c4)) from
  ⟨⟨HS.out.set 21 _, ⟨HN.out, HRd.out.fr (qaE _ _ _ _) (fun b _ h => ⟨by simp; omega, h.1, by omega⟩) (fun _ => by simp [enc8]), HRa.out.fr (qaE _ _ _ _) (fun b _ h => ⟨by simp; omega, h.1, by omega⟩) (fun _ => by simp [qao]), HRm.out.fr (qaE _ _ _ _) (fun b _ h => ⟨by simp; omega, h.1, by omega⟩) (fun _ => by simp [qay]), HRi.out.fr (qaE _ _ _ _) (fun b _ h => ⟨by simp; omega, h.1, by omega⟩) (fun _ => by simp [qaz])⟩, hst', (qaE w4 w.heap.size 21 _).size⟩, HNm.out.fr (qaE _ _ _ _) (fun b _ h => ⟨by simp; omega, h.1, by omega⟩) (by decide)⟩)
 have HA := Lib.hid (And.intro hA (And.intro hnc hgA)); have HGS := Lib.hid (show w.heap.size + 2 ≤ gs from Nat.le_trans HSZ4.out hgs); have HHI := Lib.hid (show 0 < h.s.2.1 → gs < w4.heap.size from fun h0 => (hgA h0).2)
 have HSH := Lib.hid (show w.heap.size + 2 ≤ w4.heap.size from Nat.le_trans HSZ4.out HBX4.out.size)
 clear hA hnc hgs hgA hst hst' HNm HRd HRa HRi HRm HRs HBX4 HSZ4 HCd HCa HCi HCm HCs HLd HLa HLi HLm HLs z4 f4 HS HSUB
 generalize w4.setCell ⟨w.heap.size, 21, none⟩ (.slice A4 h.s.2.1 c4) = V5 at *
 generalize w4.heap.size = hi at *
 go_loopw [29] (fun i wr => ∃ k : Nat, i = .int .i64 ↑k ∧ k ≤ h.s.2.1 ∧ ClRrN w ⟨h.n, (A0, h.d.2.1, c0), (A1, h.a.2.1, c1), (A2, h.m.2.1, c2), (A3, h.i.2.1, c3), (A4, h.s.2.1, c4)⟩ v subs h.s.2.1 gs hi rzRs k wr) (fun i _ => h.s.2.1 - (RowKit.intOf i).toNat)
 case atStart => exact ⟨0, rfl, Nat.zero_le _, HR0.out⟩
 case round =>
  obtain ⟨k, rfl, hk, hR⟩ := hrel
  have hsb := HSB.out
  by_cases hlt : k < h.s.2.1
  ·have hA4 := (HA.out.2.2 (by omega)).1
   obtain ⟨hh, hr, htk⟩ := hR.r.old k (Nat.le_refl _) hlt
   have HIHk := Lib.hid (fun (W : World) (hW : Below wr.heap.size wr W) => HIH.out k (by rw [HLEN.out]; exact hlt) hh W _ (htk.fr kRsOk (Fr.of_below (own := []) hW) (fun b hb h => ⟨by simp, h⟩)) (HOK.out k (by rw [HLEN.out]; exact hlt)))
   have HR := Lib.hid hR
   have HLT := Lib.hid hlt
   subst hA4
   have HSO := Lib.hid (fun (W : World) (hW : Below wr.heap.size wr W) => And.intro ((hR.s.call hW).cell (i := 21) (v := .slice (some ⟨gs, 0, none⟩) h.s.2.1 c4) rfl) (qbf hr hW))
   clear hR htk hr
   go_wp2_with fail
   refine qaP (S := fun w' => w'.cell? ⟨w.heap.size, 21, none⟩ = some (.slice (some ⟨gs, 0, none⟩) h.s.2.1 c4) ∧ w'.rangeAt gs (k * 22) (qax hh)) 9 (by kernel_rfl) (HSO.out _ (qaj _)) (fun hHeld => ?_)
   refine qad (i := 0) (v := .pointer (some ⟨w.heap.size, 21, none⟩)) rfl (by kernel_rfl) (fun _ _ _ h => h) (Or.inl ⟨by rfl, by intro w hSw; clear hSw; go_simp⟩) (by assumption) ?_
   (try simp only [pT])
   refine qad (i := 1) (v := .slice (some ⟨gs, 0, none⟩) h.s.2.1 c4) rfl (by kernel_rfl) (fun _ _ _ h => h) (Or.inl ⟨by rfl, by intro w hSw; have hSx := hSw.1; clear hSw; go_simp⟩) (by assumption) ?_
   (try simp only [pT])
   refine qad (i := 2) (v := .int .i64 ↑k) rfl (by kernel_rfl) (fun _ _ _ h => h) (Or.inl ⟨by rfl, by intro w hSw; clear hSw; go_simp⟩) (by assumption) ?_
   (try simp only [pT])
   refine qad (i := 3) (v := .pointer (some ⟨w.heap.size, 21, none⟩)) rfl (by kernel_rfl) (fun _ _ _ h => h) (Or.inl ⟨by rfl, by intro w hSw; clear hSw; go_simp⟩) (by assumption) ?_
   (try simp only [pT])
   refine qad (i := 4) (v := .slice (some ⟨gs, 0, none⟩) h.s.2.1 c4) rfl (by kernel_rfl) (fun _ _ _ h => h) (Or.inl ⟨by rfl, by intro w hSw; have hSx := hSw.1; clear hSw; go_simp⟩) (by assumption) ?_
   (try simp only [pT])
   refine qad (i := 5) (v := .int .i64 ↑k) rfl (by kernel_rfl) (fun _ _ _ h => h) (Or.inl ⟨by rfl, by intro w hSw; clear hSw; go_simp⟩) (by assumption) ?_
   (try simp only [pT])
   refine qad (i := 6) (v := .pointer (some ⟨gs, k * 22, none⟩)) rfl (by kernel_rfl) (fun _ _ _ h => h) (Or.inl ⟨by rfl, by intro w hSw; clear hSw; go_simp⟩) (by assumption) ?_
   (try simp only [pT])
   refine qad (i := 7) (v := .agg (qax hh).toArray) rfl (by kernel_rfl) (fun _ _ _ h => h) (yieldsIf_load_mid (by rfl) 59 _ rfl gs (k * 22) rfl (qax hh) _ (fun _ h => h.2) qbY rfl qbk) (by assumption) ?_
   (try simp only [pT])
   refine qaq (i := 8) rfl (by kernel_rfl) (fun K hK => ?_)
   go_simp
   refine (HIHk.out _ (qaj _)).mono ?_
   rintro e w6 ⟨⟨h6, rfl, ht6⟩, hb6⟩
   dsimp only
   have hbA := (qaj wr).trans (hb6.mono (qaj wr).size)
   refine hK.out _ _ (HSO.out _ hbA) ?_
   clear hK K
   (try simp only [pT])
   refine qaG (n := 9) (by kernel_rfl) ?_
   simp only [List.drop_succ_cons, List.drop_zero]
   have hth := qck (HR.out.r.there_row hlt) hbA
   have HX := Lib.hid (HR.out.step hbA (hh := h6) (TrAt.fr kRsOk ht6 (Fr.refl [] w6) (fun b _ h => ⟨by simp, Nat.le_trans (qaj wr).size h⟩)) hlt (HHI.out (by omega)) HGS.out)
   clear hbA hHeld HR HSO HR0 ht6 hb6
   go_wp2_with (first
    | (apply qaW 59; exact rfl; exact rfl; exact rfl; exact rfl; assumption; exact qbk; simp [Value.oneCell'])
    | fail)
   go_roundw
   case rel => exact ⟨k + 1, by go_num, by omega, HX.out⟩
   case measure => show h.s.2.1 - ((↑k + 1 : Int)).toNat < h.s.2.1 - (↑k : Int).toNat; omega
  ·have hkn : k = h.s.2.1 := by omega
   subst hkn
   have gC : wr.heap[w.heap.size]? = some (.cells #[.int .i32 h.n.ty, .int .i32 h.n.co, .string h.n.path, .int .i64 h.n.q.a, .int .i64 h.n.q.b, .int .i64 h.n.q.c, .int .i64 h.n.q.d, .int .i32 h.n.q.e, .int .i32 h.n.q.f, .int .i32 h.n.q.g, .int .i64 h.n.q.h, .int .i32 h.n.q.i, .int .i32 h.n.q.j, .int .i64 h.n.q.k, .slice A0 h.d.2.1 c0, .slice A1 h.a.2.1 c1, .slice A2 h.m.2.1 c2, .int .i32 h.n.ct, .int .i64 h.n.si, .int .i32 h.n.st, .slice A3 h.i.2.1 c3, .slice A4 h.s.2.1 c4] 59 (0, 0)) := hR.s.c
   have gZ := hR.s.z
   have HF := Lib.hid (qaS wr (w.heap.size + 1) (qax ⟨h.n, (A0, h.d.2.1, c0), (A1, h.a.2.1, c1), (A2, h.m.2.1, c2), (A3, h.i.2.1, c3), (A4, h.s.2.1, c4)⟩).toArray)
   have HTH := Lib.hid (hR.r.other kRsOk HF.out (qbp hR.r.th HF.out (by have := HGS.out; simp; omega)) (by have := HGS.out; simp; omega) (fun g hg => by have := HSH.out; simp at hg; omega))
   have HR := Lib.hid hR
   clear hR HR0
   go_wp2_with (first
    | (apply qaw 59 59; exact rfl; exact rfl; exact rfl; (first | assumption | (refine qaa ?_; assumption) | (exact qab _ _) | (exact qae _ _ _) | (exact qag _ _ _ _) | (exact qas _ _ _ _ _) | (exact qaa (qab _ _)) | (exact qaa (qae _ _ _)) | (exact qaa (qag _ _ _ _)) | (exact qaa (qaa (qab _ _))) | (exact qaa (qaa (qae _ _ _))) | (exact qaa (qaa (qaa (qab _ _))))); exact qbY; exact rfl; exact qbk)
    | (apply qam 59 59; exact rfl; exact rfl; exact rfl; exact rfl; (first | assumption | (refine qaa ?_; assumption) | (exact qab _ _) | (exact qae _ _ _) | (exact qag _ _ _ _) | (exact qas _ _ _ _ _) | (exact qaa (qab _ _)) | (exact qaa (qae _ _ _)) | (exact qaa (qag _ _ _ _)) | (exact qaa (qaa (qab _ _))) | (exact qaa (qaa (qae _ _ _))) | (exact qaa (qaa (qaa (qab _ _))))); exact qbk; exact rfl; simp [Value.oneCell'])
    | fail)
   have hTR : RsAt (wr.setRow (w.heap.size + 1) (qax ⟨h.n, (A0, h.d.2.1, c0), (A1, h.a.2.1, c1), (A2, h.m.2.1, c2), (A3, h.i.2.1, c3), (A4, h.s.2.1, c4)⟩).toArray) (w.heap.size ≤ ·) ⟨h.n, (A0, h.d.2.1, c0), (A1, h.a.2.1, c1), (A2, h.m.2.1, c2), (A3, h.i.2.1, c3), (A4, h.s.2.1, c4)⟩ (.mk v subs) :=
    HTH.out.tree kRsOk (kRsOk.loc HR.out.l HF.out (fun b _ h => ⟨by simp; omega, by omega⟩)) HLEN.out rfl ⟨HA.out.1, HA.out.2.1⟩ (fun h0 => ⟨(HA.out.2.2 h0).1, by have := HGS.out; omega⟩) (fun b hb => by have := HSH.out; omega)
   have hNF : RsNf (wr.setRow (w.heap.size + 1) (qax ⟨h.n, (A0, h.d.2.1, c0), (A1, h.a.2.1, c1), (A2, h.m.2.1, c2), (A3, h.i.2.1, c3), (A4, h.s.2.1, c4)⟩).toArray) (w.heap.size ≤ ·) ⟨h.n, (A0, h.d.2.1, c0), (A1, h.a.2.1, c1), (A2, h.m.2.1, c2), (A3, h.i.2.1, c3), (A4, h.s.2.1, c4)⟩ :=
    ⟨HR.out.nm.fr HF.out (fun b _ h => ⟨by simp; omega, by omega⟩) (by decide), fun b off e h0 => by
     have e2 := (HA.out.2.2 h0).1
     have e3 : A4 = some ⟨b, off, none⟩ := e
     rw [e2] at e3; injection e3 with e3; injection e3 with e4 e5
     subst e4 e5
     exact ⟨by have := HGS.out; omega, HTH.out.th⟩⟩
   exact qaD rfl rfl (setRow_heap _ _ _ _ _ _ gZ) qbY rfl qbk rfl ⟨⟨_, rfl, hTR, hNF⟩, below_setRow HR.out.s.b (by omega) _⟩
end Go.Proofs.YtbpmmmnphpkdjaaGreatDoor

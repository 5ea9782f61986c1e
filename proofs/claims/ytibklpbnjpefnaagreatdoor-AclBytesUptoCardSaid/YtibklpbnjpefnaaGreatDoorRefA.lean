/- The walks of the reference's texts: arborref02.more, Utf8; arborref06.right, cut, decimal. Condition: a text has at most 2^47 bytes. -/
import Derived.Test.YtibklpbnjpefnaaGreatDoorAclR
import Derived.Test.YtibklpbnjpefnaaGreatDoorAclQ
namespace Go.Proofs.YtibklpbnjpefnaaGreatDoor
open Go.RowKit

theorem lt_of_moreI (b : Nat) : -1 ≤ (moreI b).1 ∧ (moreI b).1 ≤ 3 ∧ (moreI b).2.1 ≤ 255 ∧ (moreI b).2.2 ≤ 255 := by
  unfold moreI; (repeat' split) <;> simp
def RetM (w : World) (m : Int × Nat × Nat) (e : Ending) (w' : World) : Prop := e = .returned (.tuple #[.int .i64 m.1, .int .u8 m.2.1, .int .u8 m.2.2]) ∧ w = w'
theorem RetM.mk {w : World} {m : Int × Nat × Nat} {a b c : Int} (e1 : a = m.1) (e2 : b = m.2.1) (e3 : c = m.2.2) : RetM w m (.returned (.tuple #[.int .i64 a, .int .u8 b, .int .u8 c])) w := ⟨by rw [e1, e2, e3], rfl⟩

set_option maxRecDepth 100000 in
set_option maxHeartbeats 1000000 in
theorem more_any (b : Nat) (hb : b < 256) (w : World) :
    Calls Tryz.prog 136 #[.int .u8 (b : Int)] w (RetM w (moreI b)) := by
  have H := Lib.hid (show moreI b = if b < 128 then (0, 0, 0) else if 194 ≤ b ∧ b ≤ 223 then (1, 128, 191) else if b = 224 then (2, 160, 191) else if b = 237 then (2, 128, 159)
    else if 225 ≤ b ∧ b ≤ 239 then (2, 128, 191) else if b = 240 then (3, 144, 191) else if b = 244 then (3, 128, 143) else if 241 ≤ b ∧ b ≤ 243 then (3, 128, 191) else (-1, 0, 0) from rfl)
  have q : ∀ n : Nat, b = n → ((b : Int) == (n : Int)) = true := fun n h => by simp [h]
  have q' : ∀ n : Nat, b ≠ n → ((b : Int) == (n : Int)) = false := fun n h => by simp; omega
  have HQ := Lib.hid q; have HQ' := Lib.hid q'; clear q q'
  have fin : ∀ m : Int × Nat × Nat, moreI b = m → Hid (moreI b = m) := fun _ h => Lib.hid h
  have HF := Lib.hid fin; clear fin
  by_cases c1 : b < 128
  · have HM := HF.out _ (by rw [H.out, if_pos c1])
    go_enter Tryz.func136, Tryz.ntmps136
    go_wp2
    go_ret3
    exact RetM.mk (by rw [HM.out]) (by rw [HM.out]; rfl) (by rw [HM.out]; rfl)
  by_cases c2 : 194 ≤ b ∧ b ≤ 223
  · have HM := HF.out _ (by rw [H.out, if_neg c1, if_pos c2])
    obtain ⟨d1, d2⟩ := c2
    go_enter Tryz.func136, Tryz.ntmps136
    go_wp2
    go_ret3
    exact RetM.mk (by rw [HM.out]) (by rw [HM.out]; rfl) (by rw [HM.out]; rfl)
  have e1 : (decide ((194 : Int) ≤ (b : Int)) && decide ((b : Int) ≤ 223)) = false := by simp; omega
  by_cases c3 : b = 224
  · have HM := HF.out _ (by rw [H.out, if_neg c1, if_neg c2, if_pos c3])
    clear c1 c2
    subst c3
    go_enter Tryz.func136, Tryz.ntmps136
    go_wp2
    go_ret3
    exact RetM.mk (by rw [HM.out]) (by rw [HM.out]; rfl) (by rw [HM.out]; rfl)
  by_cases c4 : b = 237
  · have HM := HF.out _ (by rw [H.out, if_neg c1, if_neg c2, if_neg c3, if_pos c4])
    clear c1 c2 c3
    subst c4
    go_enter Tryz.func136, Tryz.ntmps136
    go_wp2
    go_ret3
    exact RetM.mk (by rw [HM.out]) (by rw [HM.out]; rfl) (by rw [HM.out]; rfl)
  have f3 := HQ'.out 224 c3
  have f4 := HQ'.out 237 c4
  by_cases c5 : 225 ≤ b ∧ b ≤ 239
  · have HM := HF.out _ (by rw [H.out, if_neg c1, if_neg c2, if_neg c3, if_neg c4, if_pos c5])
    clear c2 c3 c4
    obtain ⟨d1, d2⟩ := c5
    have d3 : 223 < b := by omega
    go_enter Tryz.func136, Tryz.ntmps136
    go_wp2
    go_ret3
    exact RetM.mk (by rw [HM.out]) (by rw [HM.out]; rfl) (by rw [HM.out]; rfl)
  by_cases c6 : b = 240
  · have HM := HF.out _ (by rw [H.out, if_neg c1, if_neg c2, if_neg c3, if_neg c4, if_neg c5, if_pos c6])
    clear c1 c2 c3 c4 c5 e1 f3 f4
    subst c6
    go_enter Tryz.func136, Tryz.ntmps136
    go_wp2
    go_ret3
    exact RetM.mk (by rw [HM.out]) (by rw [HM.out]; rfl) (by rw [HM.out]; rfl)
  by_cases c7 : b = 244
  · have HM := HF.out _ (by rw [H.out, if_neg c1, if_neg c2, if_neg c3, if_neg c4, if_neg c5, if_neg c6, if_pos c7])
    clear c1 c2 c3 c4 c5 c6 e1 f3 f4
    subst c7
    go_enter Tryz.func136, Tryz.ntmps136
    go_wp2
    go_ret3
    exact RetM.mk (by rw [HM.out]) (by rw [HM.out]; rfl) (by rw [HM.out]; rfl)
  have f6 := HQ'.out 240 c6
  have f7 := HQ'.out 244 c7
  by_cases c8 : 241 ≤ b ∧ b ≤ 243
  · have HM := HF.out _ (by rw [H.out, if_neg c1, if_neg c2, if_neg c3, if_neg c4, if_neg c5, if_neg c6, if_neg c7, if_pos c8])
    clear c2 c3 c4 c5 c6 c7
    obtain ⟨d1, d2⟩ := c8
    have d3 : 239 < b := by omega
    have d4 : 223 < b := by omega
    go_enter Tryz.func136, Tryz.ntmps136
    go_wp2
    go_ret3
    exact RetM.mk (by rw [HM.out]) (by rw [HM.out]; rfl) (by rw [HM.out]; rfl)
  have HM := HF.out _ (by rw [H.out, if_neg c1, if_neg c2, if_neg c3, if_neg c4, if_neg c5, if_neg c6, if_neg c7, if_neg c8])
  by_cases c9 : b < 194
  · clear c2 c3 c4 c5 c6 c7 c8
    have d1 : b < 225 := by omega
    have d2 : b < 241 := by omega
    go_enter Tryz.func136, Tryz.ntmps136
    go_wp2
    go_ret3
    exact RetM.mk (by rw [HM.out]) (by rw [HM.out]; rfl) (by rw [HM.out]; rfl)
  · have d0 : 244 < b := by omega
    clear c2 c3 c4 c5 c6 c7 c8
    have d1 : 239 < b := by omega
    have d2 : 243 < b := by omega
    have d3 : 223 < b := by omega
    go_enter Tryz.func136, Tryz.ntmps136
    go_wp2
    go_ret3
    exact RetM.mk (by rw [HM.out]) (by rw [HM.out]; rfl) (by rw [HM.out]; rfl)
end Go.Proofs.YtibklpbnjpefnaaGreatDoor

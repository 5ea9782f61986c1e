/- The walks of a Writer's put and number. Condition: fewer than 2^46 bytes. -/
import Derived.Test.YtibklpbnjpefnaaGreatDoorJutB
namespace Go.Proofs.YtibklpbnjpefnaaGreatDoor
open Go.RowKit Go.MapKept Go.Maps
set_option maxRecDepth 100000 in
theorem wPut_any (wb base : Nat) (l l' : Bs) (A' : Option Addr) (m c' : Nat) (w : World) (h : WrB w wb base l) (hs : Sl w w.heap.size enc8 1 A' m l') (hA : A' = none → m = 0 ∧ c' = 0) (hn : l.length + m ≤ 140737488355328) :
    Calls Tryz.prog 100 #[.pointer (some ⟨wb, 0, none⟩), .slice A' m c'] w (WrPost (l ++ l') wb base w) := by
  obtain ⟨A, c, hcell, hrow⟩ := h.row
  have k0 : w.cell? ⟨wb, 0, none⟩ = some (.slice A l.length c) := by rw [cellH hcell]; rfl
  have HW := Lib.hid h; have HS := Lib.hid hs; have HA := Lib.hid hA; have HC := Lib.hid hcell; have HR := Lib.hid hrow
  have HL := Lib.hid hs.len
  clear h hs hA hcell hrow
  go_enter Tryz.func100, Tryz.ntmps100
  go_wp2_with (at_builtin; refine wpList_app8 rfl _ _ rfl base A l.length c l ?hx HR.out A' m c' l' ?hy HS.out HA.out hn HW.out.size ?hk)
  (try case hx => rfl)
  (try case hy => rfl)
  case hk =>
    intro A2 c2 w1 hr hg
    rw [show l.length + m = (l ++ l').length by rw [List.length_append, HL.out], ← List.flatMap_append] at hr
    rw [show l.length + m = (l ++ l').length by rw [List.length_append, HL.out]]
    obtain ⟨hc1, hw2, hk2⟩ := HW.out.put HC.out HR.out hg hr
    rw [List.length_append] at hw2 hk2
    have HW2 := Lib.hid hw2; have HK2 := Lib.hid hk2
    have k1 : w1.cell? ⟨wb, 0, none⟩ = some (.slice A l.length c) := by rw [cellH hc1]; rfl
    have f1 : w1.frozen? ⟨wb, 0, none⟩ = false := by simp [World.frozen?, hc1]
    clear hr hg hc1 hw2 hk2 k0
    go_wp2_with fail
    refine bodyPost_ret (results_none rfl _ _ _) rfl ?_
    exact ⟨rfl, HW2.out, HK2.out⟩
theorem beB_at (x : Nat) : ∀ (n j : Nat), j < n → (beB x n)[j]! = UInt8.ofNat (x / 256 ^ (n - 1 - j))
  | n + 1, 0, _ => by simp [beB]
  | n + 1, j + 1, h => by
    rw [beB]
    have := beB_at x n j (by omega)
    simp only [List.getElem!_cons_succ]
    rw [this]
    congr 3
    omega
theorem beB_step (x : Nat) {n r : Nat} (h1 : 1 ≤ r) (h2 : r ≤ n) : (beB x n).take (n - (r - 1)) = (beB x n).take (n - r) ++ [UInt8.ofNat (x / 256 ^ (r - 1))] := by
  have hl := beB_len x n
  rw [show n - (r - 1) = n - r + 1 by omega, List.take_succ_eq_append_getElem (by omega)]
  congr 2
  have := beB_at x n (n - r) (by omega)
  rw [getElem!_pos _ _ (by omega)] at this
  rw [this]
  congr 3
  omega
theorem byte_of (x r : Nat) : ((UInt8.ofNat (x / 256 ^ (r - 1))).toNat : Int) = (x : Int) / 2 ^ (8 * (r - 1)) % 256 := by
  have h : (256 : Nat) ^ (r - 1) = 2 ^ (8 * (r - 1)) := by rw [Nat.pow_mul]
  rw [UInt8.toNat_ofNat', h]
  simp
/-- the bytes of a number, some of them written -/
def NmR (wb base nb x : Nat) (l : Bs) (w : World) (i : Value) (wr : World) : Prop := ∃ r : Nat, i = .int .i64 ((r : Int) - 1) ∧ r ≤ nb ∧ WrB wr wb base (l ++ (beB x nb).take (nb - r)) ∧ Kw wb base w wr
set_option maxRecDepth 100000 in
theorem number_any (wb base nb x : Nat) (l : Bs) (w : World) (h : WrB w wb base l) (hn : l.length ≤ 70368744177664) (hb : nb = 4 ∨ nb = 8) :
    Calls Tryz.prog 70 #[.pointer (some ⟨wb, 0, none⟩), .int .u64 (x : Int), .int .i64 (nb : Int)] w (WrPost (l ++ beB x nb) wb base w) := by
  have HW := Lib.hid h
  have hb8 : nb ≤ 8 := by omega
  clear h hb
  go_enter Tryz.func70, Tryz.ntmps70
  go_wp2_with fail
  go_loopw [6] (fun i wr => NmR wb base nb x l w i wr) (fun i _ => (RowKit.intOf i + 1).toNat)
  case atStart => exact ⟨nb, rfl, Nat.le_refl _, by rw [Nat.sub_self, List.take_zero, List.append_nil]; exact HW.out, Kw.refl⟩
  case round =>
    obtain ⟨r, rfl, hr, hw, hk⟩ := hrel
    have HW1 := Lib.hid hw; have HK := Lib.hid hk
    clear hw hk
    by_cases h0 : 1 ≤ r
    · have h1 : ((r : Int) - 1) ≥ 0 := by omega
      have hb1 : Below wr.heap.size wr (wr.alloc (.cells #[.int .u8 ((x : Int) / 2 ^ (8 * (r - 1)) % 256)] 5)) := (Below.refl _ wr).alloc (Nat.le_refl _) _
      have HW2 := Lib.hid (HW1.out.below hb1)
      have HK2 := Lib.hid (HK.out.trans (Kw.of_below hb1))
      have HS2 := Lib.hid (show Sl (wr.alloc (.cells #[.int .u8 ((x : Int) / 2 ^ (8 * (r - 1)) % 256)] 5)) (wr.alloc (.cells #[.int .u8 ((x : Int) / 2 ^ (8 * (r - 1)) % 256)] 5)).heap.size enc8 1 (some ⟨wr.heap.size, 0, none⟩) 1 [UInt8.ofNat (x / 256 ^ (r - 1))] from
        ⟨rfl, fun _ => ⟨wr.heap.size, 0, rfl, by simp, fun j hj a u hu => by
          have hj0 : j = 0 := by omega
          subst hj0
          rw [cellH (heap_alloc_new wr _), ← byte_of x r]
          match a, hu with
          | 0, hu => exact hu⟩⟩)
      have HL := Lib.hid (show (l ++ (beB x nb).take (nb - r)).length + 1 ≤ 140737488355328 by
        rw [List.length_append, List.length_take, beB_len]; omega)
      have HT := Lib.hid (beB_step x h0 hr)
      clear hb1
      go_wp2_with fail
      refine (wPut_any wb base _ _ _ _ _ _ HW2.out HS2.out (fun h => by cases h) HL.out).mono ?_
      rintro e w3 ⟨rfl, hw3, hk3⟩
      have HW3 := Lib.hid (show WrB w3 wb base (l ++ (beB x nb).take (nb - (r - 1))) by rw [HT.out, ← List.append_assoc]; exact hw3)
      have HK3 := Lib.hid (HK2.out.trans hk3)
      clear hw3 hk3
      go_wp2_with fail
      go_roundw
      case rel => exact ⟨r - 1, by go_num, by omega, HW3.out, HK3.out⟩
      case measure => simp [RowKit.intOf]; omega
    · have h1 : ¬ ((r : Int) - 1) ≥ 0 := by omega
      have hr0 : r = 0 := by omega
      subst hr0
      have HW3 := Lib.hid (show WrB wr wb base (l ++ beB x nb) by
        have := HW1.out
        rwa [Nat.sub_zero, List.take_of_length_le (by rw [beB_len]; exact Nat.le_refl _)] at this)
      go_wp2_with fail
      refine bodyPost_ret (results_none rfl _ _ _) rfl ?_
      exact ⟨rfl, HW3.out, HK.out⟩
end Go.Proofs.YtibklpbnjpefnaaGreatDoor

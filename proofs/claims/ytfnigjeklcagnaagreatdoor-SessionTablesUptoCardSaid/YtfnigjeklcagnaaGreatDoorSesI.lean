/- The walks of slices.Equal, slices.Clone at identities; of the sessions' Clamp, Right, own. Condition: lengths below 2^47. -/
import Derived.Test.YtfnigjeklcagnaaGreatDoorAclF
import Derived.Test.YtfnigjeklcagnaaGreatDoorAppG
import Derived.Test.YtfnigjeklcagnaaGreatDoorOpenS
import Derived.Test.YtfnigjeklcagnaaGreatDoorLive8
namespace Go.Proofs.YtfnigjeklcagnaaGreatDoor
open Go.RowKit
set_option maxHeartbeats 1000000 in
theorem slEqualId_any (A A' : Option Addr) (n m c c' : Nat) (xs ys : List IdV) (w : World) (B : Nat) (hx : Sl w B encId 2 A n xs) (hy : Sl w B encId 2 A' m ys) (hn : n ≤ 281474976710656) (hm : m ≤ 281474976710656) :
    Calls Tryz.prog 51 #[.slice A n c, .slice A' m c'] w (QuietB w (decide (xs = ys))) := by
  by_cases hnm : n = m
  · subst hnm
    have hlen : xs.length = ys.length := hx.1.trans hy.1.symm
    have HL := Lib.hid hlen; have HXL := Lib.hid hx.1; clear hlen
    have hneq := neqId
    go_enter Tryz.func51, Tryz.ntmps51
    go_wp2
    go_loopw [5, 13] (fun _ i wr => ∃ (k q : Nat), i = .int .i64 ↑k ∧ k ≤ n ∧ (∀ j, j < k → xs[j]! = ys[j]!) ∧ wr = w.drewN q) (fun _ i _ => n - (intOf i).toNat)
    case atStart => exact ⟨0, 0, rfl, by omega, fun j hj => absurd hj (by omega), rfl⟩
    case round =>
      obtain ⟨k, q, rfl, hk, hall, rfl⟩ := hrel
      have HA := Lib.hid hall; clear hall
      by_cases hlt : k < n
      · obtain ⟨b, off, rfl, _, x0, x1⟩ := SlId.at_ hx hlt
        obtain ⟨b', off', rfl, _, y0, y1⟩ := SlId.at_ hy hlt
        have hyl : k < ys.length := by have := hy.1; omega
        by_cases he : xs[k]! = ys[k]!
        · have HA1 := Lib.hid (show ∀ j, j < k + 1 → xs[j]! = ys[j]! from fun j hj => by rcases Nat.lt_succ_iff_lt_or_eq.1 hj with h | rfl; exact HA.out j h; exact he)
          rw [he] at x0 x1
          clear he
          generalize ys[k]! = y at *
          obtain ⟨s, t⟩ := y
          have hq := fun w : World => (neqId w s t s t).trans (by simp : _ = Result.ok (.bool false) w)
          clear hneq
          go_wp2
          go_quiet (fail)
          go_wp2
          go_roundw
          case rel => exact ⟨k + 1, q + nq, by go_num, by omega, HA1.out, rfl⟩
          case measure => simp [intOf]; omega
        · have HE := Lib.hid (show decide (xs = ys) = false from decide_eq_false fun e => he (by rw [e]))
          have hd : (!decide (xs[k]! = ys[k]!)) = true := by rw [decide_eq_false he]; rfl
          have HW := Lib.hid hd
          clear he hd
          generalize xs[k]! = x at *
          generalize ys[k]! = y at *
          obtain ⟨s, t⟩ := x
          obtain ⟨s', t'⟩ := y
          have hq := fun w : World => (neqId w s t s' t').trans (by rw [HW.out] : _ = Result.ok (.bool true) w)
          clear hneq
          go_wp2
          go_quiet (fail)
          go_wp2
          go_ret
          exact QuietB.mk ⟨q + nq, World.drewN_drewN ..⟩ HE.out.symm
      · have HE := Lib.hid (show decide (xs = ys) = true from decide_eq_true (list_ext_bang HL.out fun j hj => HA.out j (by have := HXL.out; omega)))
        go_wp2
        go_ret
        exact QuietB.mk ⟨q, rfl⟩ HE.out.symm
  · have HE := Lib.hid (show decide (xs = ys) = false from decide_eq_false fun e => hnm (by rw [← hx.1, ← hy.1, e]))
    have hd : ((n : Int) != (m : Int)) = true := by simp; omega
    clear hnm
    go_enter Tryz.func51, Tryz.ntmps51
    go_wp2
    go_ret
    exact QuietB.mk ⟨0, rfl⟩ HE.out.symm

theorem elemId : Elem encId 54 73 2 32 (.agg #[.string ⟨#[]⟩, .string ⟨#[]⟩]) where
  under := Tryz.underlying54
  info := by kernel_rfl
  size := rfl
  len := fun _ => rfl
  pos := by decide
  one := fun x u hu => by
    simp [encId] at hu
    rcases hu with rfl | rfl <;> rfl
  small := by decide
theorem eqIdsSome (a : Addr) (n c : Nat) (w : World) : (binOp .eql 54 (.slice (some a) n c) (.slice none 0 0)).run Tryz.prog w = .ok (.bool false) w := by kernel_rfl
/-- a list in a row that the call made -/
def RowId (w : World) (base : Nat) (A : Option Addr) (n c : Nat) (l : List IdV) : Prop := w.ownsRow base 73 2 (.slice A n c) n (l.flatMap encId)
def ClonePost (n : Nat) (l : List IdV) (w : World) (e : Ending) (w' : World) : Prop := (∃ A c, e = .returned (.slice A n c) ∧ RowId w' w.heap.size A n c l) ∧ Below w.heap.size w w'
set_option maxRecDepth 100000 in
theorem cloneIds_any (A : Option Addr) (n c : Nat) (l : List IdV) (w : World) (hz : Sl w w.heap.size encId 2 A n l) (hA : A = none → n = 0 ∧ c = 0) (hn : n ≤ 1048576) :
    Calls Tryz.prog 62 #[.slice A n c] w (ClonePost n l w) := by
  cases A with
  | none =>
    obtain ⟨rfl, rfl⟩ := hA rfl
    have hl : l = [] := List.length_eq_zero_iff.1 hz.len
    subst hl
    refine (cloneNil w).mono ?_
    rintro e w' ⟨rfl, rfl⟩
    exact ⟨⟨none, 0, rfl, World.ownsRow_nil _ _ _ _⟩, Below.refl _ _⟩
  | some a =>
    have hb0 : Below w.heap.size w (w.alloc (.cells #[] 73)) := (Below.refl _ w).alloc (Nat.le_refl _) _
    have HS := Lib.hid (hz.belowMore hb0 hb0.size)
    have HB := Lib.hid hb0
    have hq := eqIdsSome a n c
    clear hz hA hb0
    go_enter Tryz.func62, Tryz.ntmps62
    go_wp2_with (at_builtin; refine wpList_appG elemId rfl _ _ rfl w.heap.size (some ⟨w.heap.size, 0, none⟩) 0 0 [] ?hx (own_empty w) (some a) n c l ?hy HS.out (fun e => by cases e) (by omega) HB.out.size ?hk)
    (try case hx => rfl)
    (try case hy => rfl)
    case hk =>
      intro A2 c2 w2 hv2 hb2
      have HV2 := Lib.hid hv2; have HB2 := Lib.hid (HB.out.trans hb2)
      clear hv2 hb2
      go_wp2_with fail
      go_ret
      exact ⟨⟨A2, c2, by simp, by unfold RowId; simpa using HV2.out⟩, HB2.out⟩
theorem clamp_any (t : Int) (w : World) : Calls Tryz.prog 59 #[.int .i32 t] w fun e w' => e = .returned (.int .i32 (min (max t 4) 1048576)) ∧ w = w' := by
  go_enter Tryz.func59, Tryz.ntmps59
  go_wp2_with fail
  go_ret
  exact ⟨rfl, rfl⟩
end Go.Proofs.YtfnigjeklcagnaaGreatDoor

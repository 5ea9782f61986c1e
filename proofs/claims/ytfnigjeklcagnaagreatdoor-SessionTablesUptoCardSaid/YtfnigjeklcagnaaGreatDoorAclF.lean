/- The walks of slices.IndexFunc, ContainsFunc, Index, Contains, Equal at identities and entries. Condition: lengths below 2^47. -/
import Derived.Test.YtfnigjeklcagnaaGreatDoorAclS
import Derived.Test.YtfnigjeklcagnaaGreatDoorAclR
namespace Go.Proofs.YtfnigjeklcagnaaGreatDoor
open Go.RowKit

theorem any_split {α : Type} [Inhabited α] (p : α → Bool) (zs : List α) (k : Nat) (hk : k < zs.length) (hp : p zs[k]! = true) : zs.any p = true := by
  rw [List.any_eq_true]
  exact ⟨zs[k]!, by rw [getElem!_pos zs k hk]; exact List.getElem_mem hk, hp⟩
theorem any_none {α : Type} [Inhabited α] (p : α → Bool) (zs : List α) (h : ∀ j, j < zs.length → p zs[j]! = false) : zs.any p = false := by
  rw [Bool.eq_false_iff]
  intro hh
  rw [List.any_eq_true] at hh
  obtain ⟨x, hx, hpx⟩ := hh
  obtain ⟨j, hj, rfl⟩ := List.getElem_of_mem hx
  have := h j hj
  rw [getElem!_pos zs j hj] at this
  rw [this] at hpx; cases hpx
def IdxPost (w : World) (b : Bool) (e : Ending) (w' : World) : Prop := (∃ r : Int, e = .returned (.int .i64 r) ∧ decide (0 ≤ r) = b) ∧ Below w.heap.size w w'
theorem IdxPost.mk {w w' : World} {b : Bool} {r : Int} (h : decide (0 ≤ r) = b) (hb : Below w.heap.size w w') : IdxPost w b (.returned (.int .i64 r)) w' := ⟨⟨r, rfl, h⟩, hb⟩

set_option maxHeartbeats 1000000 in
theorem indexId_any (A : Option Addr) (n c : Nat) (zs : List IdV) (s t : ByteArray) (w : World) (hz : Sl w w.heap.size encId 2 A n zs) (hn : n ≤ 281474976710656) :
    Calls Tryz.prog 70 #[.slice A n c, .agg #[.string s, .string t]] w (IdxPost w (zs.any (fun y => decide (y = (s, t))))) := by
  have HZ := Lib.hid hz.1
  have hb0 : Below w.heap.size w (w.alloc (.cells #[.string s, .string t] 73)) := (Below.refl _ w).alloc (Nat.le_refl _) _
  go_enter Tryz.func70, Tryz.ntmps70
  go_wp2
  go_loopw [5, 8] (fun _ i wr => ∃ (k q : Nat), i = .int .i64 ↑k ∧ k ≤ n ∧ (∀ j, j < k → decide (zs[j]! = (s, t)) = false) ∧ wr = (w.alloc (.cells #[.string s, .string t] 73)).drewN q) (fun _ i _ => n - (intOf i).toNat)
  case atStart => exact ⟨0, 0, rfl, by omega, fun j hj => absurd hj (by omega), rfl⟩
  case round =>
    obtain ⟨k, q, rfl, hk, hall, rfl⟩ := hrel
    have HA := Lib.hid hall; clear hall
    by_cases hlt : k < n
    · obtain ⟨b, off, rfl, hbl, x0, x1⟩ := SlId.at_ (hz.below hb0) hlt
      have HS := Lib.hid (any_split (fun y => decide (y = (s, t))) zs k (by rw [HZ.out]; exact hlt))
      have HN : Hid (decide (zs[k]! = (s, t)) = false → ∀ j, j < k + 1 → decide (zs[j]! = (s, t)) = false) := Lib.hid (fun h j hj => by rcases Nat.lt_succ_iff_lt_or_eq.1 hj with h2 | rfl; exact HA.out j h2; exact h)
      generalize hx : zs[k]! = x at *
      obtain ⟨s', t'⟩ := x
      clear hx
      have heq := fun w => (eqId w s t s' t').trans (by rw [show decide ((s, t) = (s', t')) = decide ((s', t') = (s, t)) from decide_eq_decide.2 eq_comm] : _ = Result.ok (.bool (decide ((s', t') = (s, t)))) w)
      cases hq : decide ((s', t') = (s, t))
      · have HQ := Lib.hid hq
        rw [hq] at heq
        clear hq
        go_wp2
        go_quiet (fail)
        go_wp2
        go_roundw
        case rel => exact ⟨k + 1, q + nq, by go_num, by omega, HN.out HQ.out, by first | rfl | rw [World.drewN_drewN]⟩
        case measure => simp [intOf]; omega
      · have HQ := Lib.hid hq
        rw [hq] at heq
        clear hq
        go_wp2
        go_quiet (fail)
        go_wp2
        go_ret
        exact IdxPost.mk (by rw [HS.out HQ.out]; exact decide_eq_true (by omega)) (drewN_below (drewN_below hb0 q) nq)
    · go_wp2
      go_ret
      exact IdxPost.mk (by rw [any_none _ zs (fun j hj => HA.out j (by have := HZ.out; omega))]; rfl) (drewN_below hb0 q)

theorem containsId_any (A : Option Addr) (n c : Nat) (zs : List IdV) (s t : ByteArray) (w : World) (hz : Sl w w.heap.size encId 2 A n zs) (hn : n ≤ 281474976710656) :
    Calls Tryz.prog 61 #[.slice A n c, .agg #[.string s, .string t]] w (RetB w (zs.any (fun y => decide (y = (s, t))))) := by
  have hb0 : Below w.heap.size w (w.alloc (.cells #[.string s, .string t] 73)) := (Below.refl _ w).alloc (Nat.le_refl _) _
  have cI := indexId_any A n c zs s t (w.alloc (.cells #[.string s, .string t] 73)) (hz.belowMore hb0 hb0.size) hn
  generalize zs.any (fun y => decide (y = (s, t))) = b at *
  go_enter Tryz.func61, Tryz.ntmps61
  go_wp2_with fail
  refine cI.mono ?_
  rintro e w' ⟨⟨r, rfl, hr⟩, hb⟩
  have HR := Lib.hid hr; clear hr
  go_wp2
  go_ret
  exact RetB.mk (hb0.trans (hb.mono hb0.size)) HR.out
end Go.Proofs.YtfnigjeklcagnaaGreatDoor

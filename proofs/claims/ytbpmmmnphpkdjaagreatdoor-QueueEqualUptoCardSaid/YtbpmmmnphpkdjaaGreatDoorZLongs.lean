/- The walk of arborlaw08.sameLongs. No condition but lengths. -/
import Derived.Test.YtbpmmmnphpkdjaaGreatDoorZClkE
namespace Go.Proofs.YtbpmmmnphpkdjaaGreatDoor
open Go.RowKit Go.MapKept Go.Maps
/-- the slice reads these numbers -/
def SlI (w : World) (A : Option Addr) (n : Nat) (l : List Int) : Prop := l.length = n ∧ ∀ j, j < n → ∃ b off, A = some ⟨b, off, none⟩ ∧ w.cell? ⟨b, off + j, none⟩ = some (.int .i64 l[j]!)
theorem SlI.of_row {w : World} {base c : Nat} {A : Option Addr} {l : List Int} (h : w.ownsRow base 2 1 (.slice A l.length c) l.length (l.map encZ)) : SlI w A l.length l :=
  ⟨rfl, fun j hj => by
    obtain ⟨g, e, _, z⟩ := row_at h rfl hj
    exact ⟨g, 0, e, by rw [Nat.zero_add]; exact z⟩⟩
theorem SlI.below {w w' : World} {A : Option Addr} {n : Nat} {l : List Int} (h : SlI w A n l) (hb : Below w.heap.size w w') : SlI w' A n l :=
  ⟨h.1, fun j hj => by
    obtain ⟨b, off, e, z⟩ := h.2 j hj
    exact ⟨b, off, e, (hb.cell (World.block_lt_of_cell? w _ z)).trans z⟩⟩
theorem list_ext_bang8 {xs ys : List Int} (hl : xs.length = ys.length) (h : ∀ j, j < xs.length → xs[j]! = ys[j]!) : xs = ys := by
  refine List.ext_getElem hl fun j h1 h2 => ?_
  have := h j h1
  rwa [getElem!_pos xs j h1, getElem!_pos ys j h2] at this
def QuietB8 (w : World) (b : Bool) (e : Ending) (w' : World) : Prop := e = .returned (.bool b) ∧ ∃ q, w' = w.drewN q
set_option maxHeartbeats 1000000 in
theorem sameLongs_any (A A' : Option Addr) (n m c c' : Nat) (xs ys : List Int) (w : World) (hx : SlI w A n xs) (hy : SlI w A' m ys) (hn : n ≤ 281474976710656) :
    Calls Tryz.prog 93 #[.slice A n c, .slice A' m c'] w (QuietB8 w (decide (xs = ys))) := by
  by_cases hnm : n = m
  · subst hnm
    have HL := Lib.hid (hx.1.trans hy.1.symm); have HXL := Lib.hid hx.1
    go_enter Tryz.func93, Tryz.ntmps93
    go_wp2
    go_loopw [5] (fun i wr => ∃ (k q : Nat), i = .int .i64 ↑k ∧ k ≤ n ∧ (∀ j, j < k → xs[j]! = ys[j]!) ∧ wr = w.drewN q) (fun i _ => n - (intOf i).toNat)
    case atStart => exact ⟨0, 0, rfl, by omega, fun j hj => absurd hj (by omega), rfl⟩
    case round =>
      obtain ⟨k, q, rfl, hk, hall, rfl⟩ := hrel
      have HA := Lib.hid hall; clear hall
      by_cases hlt : k < n
      · obtain ⟨b, off, hA, x0⟩ := hx.2 k hlt
        obtain ⟨b', off', hA', y0⟩ := hy.2 k hlt
        have HX := Lib.hid (And.intro hx hy)
        clear hx hy
        subst hA hA'
        have hk2 : ((k : Nat) : Int) < (n : Int) := by omega
        by_cases he : xs[k]! = ys[k]!
        · have HA1 := Lib.hid (show ∀ j, j < k + 1 → xs[j]! = ys[j]! from fun j hj => by rcases Nat.lt_succ_iff_lt_or_eq.1 hj with h | rfl; exact HA.out j h; exact he)
          rw [he] at x0
          clear he
          generalize ys[k]! = y at *
          go_wp2
          go_quiet (fail)
          go_wp2
          go_roundw
          case rel => exact ⟨k + 1, q + nq, by go_num, by omega, HA1.out, by first | rfl | rw [World.drewN_drewN]⟩
          case measure => simp [intOf]; omega
        · have HE := Lib.hid (show decide (xs = ys) = false from decide_eq_false fun e => he (by rw [e]))
          have hd : (xs[k]! == ys[k]!) = false := beq_eq_false_iff_ne.2 he
          have hne : (xs[k]! != ys[k]!) = true := bne_iff_ne.2 he
          clear he
          generalize xs[k]! = x at *
          generalize ys[k]! = y at *
          go_wp2
          go_quiet (fail)
          go_wp2
          go_ret
          exact ⟨by rw [HE.out]; rfl, _, by first | rfl | exact World.drewN_drewN ..⟩
      · have HE := Lib.hid (show decide (xs = ys) = true from decide_eq_true (list_ext_bang8 HL.out fun j hj => HA.out j (by have := HXL.out; omega)))
        go_wp2
        go_ret
        exact ⟨by rw [HE.out]; rfl, _, rfl⟩
  · have HE := Lib.hid (show decide (xs = ys) = false from decide_eq_false fun e => hnm (by rw [← hx.1, ← hy.1, e]))
    have hd : ((n : Int) != (m : Int)) = true := by simp; omega
    clear hnm
    go_enter Tryz.func93, Tryz.ntmps93
    go_wp2
    go_ret
    exact ⟨by rw [HE.out]; rfl, 0, rfl⟩
end Go.Proofs.YtbpmmmnphpkdjaaGreatDoor

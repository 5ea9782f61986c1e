/- The walk of acl.text: it tells 'textOk'. -/
import Derived.Test.YtbpmmmnphpkdjaaGreatDoorShelf
import Derived.Test.YtbpmmmnphpkdjaaGreatDoorAclB
import Derived.Test.YtbpmmmnphpkdjaaGreatDoorAddrP
import Derived.LoopTactic
import Derived.BigCall
import Derived.Lib.Hide
import Derived.Lib.TrimU
import Derived.Lib.QuoteLoop
import Derived.Lib.OthersKept
import Derived.Lib.SlicesS
namespace Go.Proofs.YtbpmmmnphpkdjaaGreatDoor
open Go.RowKit

/-- a call that ends in a bool, and leaves all that lay -/
def RetB (w : World) (b : Bool) (e : Ending) (w' : World) : Prop := e = .returned (.bool b) ∧ Below w.heap.size w w'
theorem RetB.mk {w w' : World} {a b : Bool} (h : Below w.heap.size w w') (e : b = a) : RetB w a (.returned (.bool b)) w' := ⟨by rw [e], h⟩
theorem dec_pos (s : ByteArray) (p : Nat) : 1 ≤ (Utf8.decode s p).2 := Lib.width_pos s p

theorem nonempty (s : ByteArray) (h0 : s.size ≠ 0) : s.toList.isEmpty = false := by
  cases hb : s.toList.isEmpty with
  | false => rfl
  | true =>
    exfalso
    have h2 : s.toList = [] := List.isEmpty_iff.1 hb
    rw [ByteArray.toList_eq] at h2
    apply h0
    have h3 : s.data.toList.length = 0 := by rw [h2]; rfl
    simpa using h3

set_option maxHeartbeats 4000000 in
theorem text_any (s : ByteArray) (hs : s.size ≤ 140737488355328) (w : World) (hT : Lib.Utf8Tabs 0 1 w) :
    Calls Tryz.prog 117 #[.string s] w (RetB w (textOk s)) := by
  have cV : Calls Tryz.prog 147 #[.string s] w _ := Tryz.utf8_ValidString s w (by omega) hT
  have hv : Lib.validD s.data.toList = validFrom s 0 := by unfold validFrom; rw [List.drop_zero]
  rw [hv] at cV
  clear hv
  by_cases h0 : s.size = 0
  · have he : s = ByteArray.empty := ByteArray.ext (Array.eq_empty_of_size_eq_zero h0)
    subst he
    clear cV
    go_enter Tryz.func117, Tryz.ntmps117
    go_wp2
    go_ret
    exact RetB.mk (Below.refl _ _) (by simp [textOk])
  have hne : s.toList.isEmpty = false := nonempty s h0
  by_cases h1 : s.size ≤ 256
  · have h1z : ¬ (256 < (s.size : Int)) := by omega
    by_cases hV : validFrom s 0 = true
    · rw [hV] at cV
      have HV := Lib.hid hV; clear hV
      go_enter Tryz.func117, Tryz.ntmps117
      go_wp2_with (go_at_call 147; refine cV.mono ?_; rintro e w1 ⟨rfl, hb1⟩)
      have hdec0 : ∀ p, p < s.size → (Utf8.decode s p).1 ≤ 1114111 := fun p _ => Lib.rune_le s p
      have HB1 := Lib.hid hb1; clear hb1
      go_loopw [] (fun wr => ∃ p : Nat, wr.heap[w1.heap.size]? = some (.stringIter s p) ∧ Below w1.heap.size w1 wr ∧ okFrom s p = okFrom s 0) (fun wr => s.size - wr.iterPos w1.heap.size)
      case atStart => exact ⟨0, World.iter_heap w1 s 0, (Below.refl _ w1).alloc (Nat.le_refl _) _, rfl⟩
      case round =>
        obtain ⟨p, hit, hbw, hF⟩ := hrel
        have HF := Lib.hid hF; clear hF
        by_cases hp : p < s.size
        · have hnx : ∀ ty, (Instr.next (.pointer (some ⟨w1.heap.size, 0, none⟩)) true ty).run Tryz.prog wr = _ := fun ty => Lib.run_next_any_at wr w1.heap.size s p ty hit hp
          have hd1 := Lib.rune_le s p
          have hit2 := Lib.iterAt_heap wr w1.heap.size s p (p + (Utf8.decode s p).2) hit
          have hbw2 := Lib.below_iterAt hbw (k := w1.heap.size) (by omega) s (p + (Utf8.decode s p).2)
          have HIT := Lib.hid hit; have HIT2 := Lib.hid hit2; have HB2 := Lib.hid hbw2
          clear hit hit2 hbw hbw2
          have hw1 := dec_pos s p
          have HR := Lib.hid (okFrom_rune s p hp)
          by_cases c1 : (((Utf8.decode s p).1 : Nat) : Int) < 33
          · have HO : Hid (okB (Utf8.decode s p).1 = false) := Lib.hid (by unfold okB; rw [decide_eq_false (by omega)]; rfl)
            go_wp2
            go_ret
            exact RetB.mk (HB1.out.trans (HB2.out.mono HB1.out.size)) (by unfold textOk; rw [← HF.out, HR.out, HO.out]; simp)
          by_cases c2 : (((Utf8.decode s p).1 : Nat) : Int) = 127
          · have c2b : ((((Utf8.decode s p).1 : Nat) : Int) == 127) = true := by simp [c2]
            have HO : Hid (okB (Utf8.decode s p).1 = false) := Lib.hid (by unfold okB; rw [show (Utf8.decode s p).1 = 127 by omega]; rfl)
            clear c2
            go_wp2
            go_ret
            exact RetB.mk (HB1.out.trans (HB2.out.mono HB1.out.size)) (by unfold textOk; rw [← HF.out, HR.out, HO.out]; simp)
          have c2b : ((((Utf8.decode s p).1 : Nat) : Int) == 127) = false := by simp [c2]
          by_cases c3 : (((Utf8.decode s p).1 : Nat) : Int) = 44
          · have c3b : ((((Utf8.decode s p).1 : Nat) : Int) == 44) = true := by simp [c3]
            have HO : Hid (okB (Utf8.decode s p).1 = false) := Lib.hid (by unfold okB; rw [show (Utf8.decode s p).1 = 44 by omega]; rfl)
            clear c2 c3
            go_wp2
            go_ret
            exact RetB.mk (HB1.out.trans (HB2.out.mono HB1.out.size)) (by unfold textOk; rw [← HF.out, HR.out, HO.out]; simp)
          have c3b : ((((Utf8.decode s p).1 : Nat) : Int) == 44) = false := by simp [c3]
          have HO : Hid (okB (Utf8.decode s p).1 = true) := Lib.hid (by unfold okB; rw [decide_eq_true (by omega), decide_eq_true (by omega), decide_eq_true (by omega)]; rfl)
          clear c2 c3
          go_wp2
          go_roundw
          case rel => exact ⟨p + (Utf8.decode s p).2, HIT2.out, HB2.out, by rw [← HF.out, HR.out, HO.out, Bool.true_and]⟩
          case measure =>
            have e1 := HIT2.out; have e0 := HIT.out
            simp only [World.iterPos, e1, e0]
            omega
        · have hnx : ∀ ty, (Instr.next (.pointer (some ⟨w1.heap.size, 0, none⟩)) true ty).run Tryz.prog wr = _ := fun ty => Lib.run_next_end_at wr w1.heap.size s p ty hit hp
          have HB := Lib.hid hbw; clear hbw
          go_wp2
          go_ret
          exact RetB.mk (HB1.out.trans (HB.out.mono HB1.out.size)) (by unfold textOk; rw [← HF.out, okFrom_end s p hp, HV.out, decide_eq_true (by omega), decide_eq_true h1]; rfl)
    · have hVf : validFrom s 0 = false := by simpa using hV
      rw [hVf] at cV
      clear hV
      have HV := Lib.hid hVf; clear hVf
      go_enter Tryz.func117, Tryz.ntmps117
      go_wp2_with (go_at_call 147; refine cV.mono ?_; rintro e w1 ⟨rfl, hb1⟩)
      go_ret
      exact RetB.mk hb1 (by unfold textOk; rw [HV.out]; simp)
  · have h1z : 256 < (s.size : Int) := by omega
    clear cV
    go_enter Tryz.func117, Tryz.ntmps117
    go_wp2
    go_ret
    exact RetB.mk (Below.refl _ _) (by unfold textOk; rw [decide_eq_false h1]; simp)
end Go.Proofs.YtbpmmmnphpkdjaaGreatDoor

/- The walks of runes.First, runes.Units : each computes one plain function of the text, for every text of at most 2^47 bytes (the form's own reach). -/
import Derived.Test.YtenhdbjkpopfmaaDoorRChar
import Derived.BigCall
import Derived.Lib.OthersKept
namespace Go.Proofs.YtenhdbjkpopfmaaDoor
open Go.RowKit

def firstF (s : ByteArray) : Nat → Nat → Int × Int
  | 0, _ => (-1, 1)
  | f + 1, p => if p < s.size then (if charK s p = 1 then firstF s f (p + charW s p) else ((p : Int), charK s p)) else (-1, 1)
def firstI (s : ByteArray) : Int × Int := firstF s s.size 0
theorem firstF_end (s : ByteArray) (f p : Nat) (h : ¬ p < s.size) : firstF s f p = (-1, 1) := by cases f <;> simp [firstF, h]
theorem firstF_go (s : ByteArray) (f p : Nat) (h : p < s.size) (hk : charK s p = 1) : firstF s (f + 1) p = firstF s f (p + charW s p) := by simp [firstF, h, hk]
theorem firstF_stop (s : ByteArray) (f p : Nat) (h : p < s.size) (hk : charK s p ≠ 1) : firstF s (f + 1) p = ((p : Int), charK s p) := by simp [firstF, h, hk]

def unitsF (s : ByteArray) : Nat → Nat → Nat
  | 0, _ => 0
  | f + 1, p => if p < s.size then (if 65536 ≤ (Utf8.decode s p).1 then 2 else 1) + unitsF s f (p + charW s p) else 0
def unitsI (s : ByteArray) : Nat := unitsF s s.size 0
theorem unitsF_end (s : ByteArray) (f p : Nat) (h : ¬ p < s.size) : unitsF s f p = 0 := by cases f <;> simp [unitsF, h]

def Ret2 (w : World) (a b : Int) (e : Ending) (w' : World) : Prop := e = .returned (.tuple #[.int .i64 a, .int .i64 b]) ∧ Below w.heap.size w w'
theorem Ret2.mk {w w' : World} {a b c d : Int} (h : Below w.heap.size w w') (e : c = a ∧ d = b) : Ret2 w a b (.returned (.tuple #[.int .i64 c, .int .i64 d])) w' := ⟨by rw [e.1, e.2], h⟩
def Ret1 (w : World) (a : Int) (e : Ending) (w' : World) : Prop := e = .returned (.int .i64 a) ∧ Below w.heap.size w w'
theorem Ret1.mk {w w' : World} {a c : Int} (h : Below w.heap.size w w') (e : c = a) : Ret1 w a (.returned (.int .i64 c)) w' := ⟨by rw [e], h⟩

set_option maxHeartbeats 4000000 in
theorem first_any (s : ByteArray) (hs : s.size ≤ 140737488355328) (w : World) :
    Calls Tryd.prog 15 #[.string s] w (Ret2 w (firstI s).1 (firstI s).2) := by
  go_enter Tryd.func15, Tryd.ntmps15
  go_wp2
  go_loopw [] (fun wr => ∃ (p f : Nat), wr.heap[w.heap.size]? = some (.stringIter s p) ∧ Below w.heap.size w wr ∧ firstF s f p = firstI s ∧ s.size ≤ p + f) (fun wr => s.size - wr.iterPos w.heap.size)
  case atStart => exact ⟨0, s.size, World.iter_heap w s 0, (Below.refl _ w).alloc (Nat.le_refl _) _, rfl, by omega⟩
  case round =>
    obtain ⟨p, f, hit, hbw, hF, hfu⟩ := hrel
    have HF := Lib.hid hF; clear hF
    by_cases hp : p < s.size
    · have hnx : ∀ ty, (Instr.next (.pointer (some ⟨w.heap.size, 0, none⟩)) true ty).run Tryd.prog wr = _ := fun ty => Lib.run_next_any_at wr w.heap.size s p ty hit hp
      have hd1 := decode_le s p
      have hit2 := Lib.iterAt_heap wr w.heap.size s p (p + (Utf8.decode s p).2) hit
      have hbw2 := Lib.below_iterAt hbw (k := w.heap.size) (by omega) s (p + (Utf8.decode s p).2)
      have HIT := Lib.hid hit; have HIT2 := Lib.hid hit2; have HB2 := Lib.hid hbw2; have HB := Lib.hid hbw
      clear hit hit2 hbw hbw2
      have hw1 := charW_pos s p
      obtain ⟨g, rfl⟩ : ∃ g, f = g + 1 := ⟨f - 1, by omega⟩
      by_cases hk : charK s p = 1
      · have HK := Lib.hid hk
        have hkb : (charK s p == 1) = true := by simp [hk]
        have hkc : (charK s p != 1) = false := by simp [hk]
        clear hk
        go_wp2_with (go_at_call 16; refine (of_any s p hp hs _).mono ?_; rintro e w' ⟨rfl, rfl⟩)
        go_roundw
        case rel => exact ⟨p + charW s p, g, HIT2.out, HB2.out, by rw [← HF.out, firstF_go s g p hp HK.out], by omega⟩
        case measure =>
          have e1 := HIT2.out; have e0 := HIT.out
          simp only [World.iterPos, e1, e0]
          unfold charW at hw1; omega
      · have HK := Lib.hid hk
        have hkb : (charK s p == 1) = false := by simp [hk]
        have hkc : (charK s p != 1) = true := by simp [hk]
        clear hk
        go_wp2_with (go_at_call 16; refine (of_any s p hp hs _).mono ?_; rintro e w' ⟨rfl, rfl⟩)
        go_ret2
        exact Ret2.mk HB2.out (by rw [← HF.out, firstF_stop s g p hp HK.out]; exact ⟨rfl, rfl⟩)
    · have hnx : ∀ ty, (Instr.next (.pointer (some ⟨w.heap.size, 0, none⟩)) true ty).run Tryd.prog wr = _ := fun ty => Lib.run_next_end_at wr w.heap.size s p ty hit hp
      have HB := Lib.hid hbw; clear hbw
      go_wp2
      go_ret2
      exact Ret2.mk HB.out (by rw [← HF.out, firstF_end s f p hp]; exact ⟨rfl, rfl⟩)

theorem kindI_far (r : Nat) (h : r ≤ 1114111) : (kindI (r : Int) == 7) = decide (65536 ≤ r) := by
  rw [Bool.eq_iff_iff]; simp only [beq_iff_eq, decide_eq_true_eq]
  unfold kindI; repeat' split
  all_goals omega

set_option maxHeartbeats 4000000 in
theorem units_any (s : ByteArray) (hs : s.size ≤ 140737488355328) (w : World) :
    Calls Tryd.prog 14 #[.string s] w (Ret1 w (unitsI s)) := by
  go_enter Tryd.func14, Tryd.ntmps14
  go_wp2
  go_loopw [3] (fun n wr => ∃ (p f m : Nat), n = .int .i64 ↑m ∧ wr.heap[w.heap.size]? = some (.stringIter s p) ∧ Below w.heap.size w wr ∧ m + unitsF s f p = unitsI s ∧ s.size ≤ p + f ∧ m ≤ 2 * p ∧ p ≤ s.size) (fun _ wr => s.size - wr.iterPos w.heap.size)
  case atStart => exact ⟨0, s.size, 0, rfl, World.iter_heap w s 0, (Below.refl _ w).alloc (Nat.le_refl _) _, by simp [unitsI], by omega, by omega, by omega⟩
  case round =>
    obtain ⟨p, f, m, rfl, hit, hbw, hF, hfu, hm, hps⟩ := hrel
    have HF := Lib.hid hF; clear hF
    by_cases hp : p < s.size
    · have hnx : ∀ ty, (Instr.next (.pointer (some ⟨w.heap.size, 0, none⟩)) true ty).run Tryd.prog wr = _ := fun ty => Lib.run_next_any_at wr w.heap.size s p ty hit hp
      have hd1 := decode_le s p
      have hit2 := Lib.iterAt_heap wr w.heap.size s p (p + (Utf8.decode s p).2) hit
      have hbw2 := Lib.below_iterAt hbw (k := w.heap.size) (by omega) s (p + (Utf8.decode s p).2)
      have HIT := Lib.hid hit; have HIT2 := Lib.hid hit2; have HB2 := Lib.hid hbw2; have HB := Lib.hid hbw
      clear hit hit2 hbw hbw2
      have hw1 := charW_pos s p
      have hw2 := charW_le s p hp
      obtain ⟨g, rfl⟩ : ∃ g, f = g + 1 := ⟨f - 1, by omega⟩
      by_cases hk : 65536 ≤ (Utf8.decode s p).1
      · have hkb : (kindI ((Utf8.decode s p).1 : Int) == 7) = true := by rw [kindI_far _ hd1]; simp [hk]
        have HK := Lib.hid hk
        go_wp2_with (go_at_call 19; refine (kind_any _ _).mono ?_; rintro e w' ⟨rfl, rfl⟩)
        go_roundw
        case rel => exact ⟨p + charW s p, g, m + 2, by go_num, HIT2.out, HB2.out, by rw [← HF.out]; simp [unitsF, hp, HK.out]; omega, by omega, by omega, by omega⟩
        case measure =>
          have e1 := HIT2.out; have e0 := HIT.out
          simp only [World.iterPos, e1, e0]
          unfold charW at hw1; omega
      · have hkb : (kindI ((Utf8.decode s p).1 : Int) == 7) = false := by rw [kindI_far _ hd1]; simp [hk]
        have HK := Lib.hid hk
        go_wp2_with (go_at_call 19; refine (kind_any _ _).mono ?_; rintro e w' ⟨rfl, rfl⟩)
        go_roundw
        case rel => exact ⟨p + charW s p, g, m + 1, by go_num, HIT2.out, HB2.out, by rw [← HF.out]; simp [unitsF, hp, HK.out]; omega, by omega, by omega, by omega⟩
        case measure =>
          have e1 := HIT2.out; have e0 := HIT.out
          simp only [World.iterPos, e1, e0]
          unfold charW at hw1; omega
    · have hnx : ∀ ty, (Instr.next (.pointer (some ⟨w.heap.size, 0, none⟩)) true ty).run Tryd.prog wr = _ := fun ty => Lib.run_next_end_at wr w.heap.size s p ty hit hp
      have HB := Lib.hid hbw; clear hbw
      go_wp2
      go_ret
      exact Ret1.mk HB.out (by rw [← HF.out, unitsF_end s f p hp]; rfl)

end Go.Proofs.YtenhdbjkpopfmaaDoor

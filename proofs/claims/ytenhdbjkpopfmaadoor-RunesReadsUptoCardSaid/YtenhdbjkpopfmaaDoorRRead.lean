/- The walk of runes.Read. Condition: the text has at most 2^20 bytes; the tables of unicode/utf8 hold what their initialisers lay. -/
import Derived.Test.YtenhdbjkpopfmaaDoorRItems
import Derived.Lib.BufferRead
import Derived.WalkSmall
namespace Go.Proofs.YtenhdbjkpopfmaaDoor
open Go.RowKit

def ReadPost (s : ByteArray) (w : World) (e : Ending) (w' : World) : Prop := e = .returned (.tuple #[.string (readI s).1, .int .i64 (readI s).2.1, .int .i64 (readI s).2.2]) ∧ Below w.heap.size w w'
theorem ReadPost.mk {s a : ByteArray} {b c : Int} {w w' : World} (h : readI s = (a, b, c)) (hb : Below w.heap.size w w') : ReadPost s w (.returned (.tuple #[.string a, .int .i64 b, .int .i64 c])) w' := by
  unfold ReadPost; rw [h]; exact ⟨rfl, hb⟩

/-- 'string(b)' of a row of the call's own. -/
theorem conv_back {w : World} {B : Nat} {v : Value} {l : List UInt8} (h : w.ownsRowF B 5 1 v l.length (Lib.byteCells l)) :
    (convert 43 9 v).run Tryd.prog w = .ok (.string ⟨l.toArray⟩) w := by
  rcases h.2 with ⟨rfl, h0⟩ | ⟨g, cap, cur, fz, rfl, _⟩
  · have hl : l = [] := List.length_eq_zero_iff.1 h0
    subst hl
    exact Lib.run_convert_nil_bytes w 43 9 5 0 Tryd.underlying43 Tryd.underlying5 Tryd.underlying9
  · refine run_convert_bytes_back w 43 9 5 ⟨g, 0, none⟩ cap l Tryd.underlying43 Tryd.underlying5 Tryd.underlying9 ?_
    intro j hj
    have := h.cells (g := g) rfl j (.int .u8 (l[j].toNat : Int)) (by simp [Lib.byteCells, hj])
    simpa [Addr.add] using this

theorem bdN {B : Nat} {a w : World} (h : Below B a w) (n : Nat) : Below B a (w.drewN n) := h.trans ⟨rfl, rfl, rfl, Nat.le_refl _, fun _ _ => rfl⟩
def DiffRel (want s : ByteArray) (w : World) (i : Value) (wx : World) : Prop := ∃ (k f : Nat), i = .int .i64 ↑k ∧ k ≤ want.size + s.size ∧ diffF want s f k = diffI want s ∧ want.size + s.size ≤ k + f ∧ Below w.heap.size w wx

set_option maxRecDepth 100000 in
set_option maxHeartbeats 2000000 in
theorem read_any (s : ByteArray) (hs : s.size ≤ 67108864) (w : World) (hT : Lib.Utf8Tabs 0 1 w) :
    Calls Tryd.prog 11 #[.string s] w (ReadPost s w) := by
  have hir := itemsI_range s
  have hil := itemsI_length s
  by_cases h : 0 ≤ (itemsI s).2
  · have HR : Hid (readI s = (⟨#[]⟩, (itemsI s).2, 1)) := Lib.hid (by unfold readI; rw [if_pos h])
    go_enter Tryd.func11, Tryd.ntmps11
    go_wp2_with fail
    refine (items_any s hs _ hT).mono ?_
    rintro e w1 ⟨v, rfl, ho, hb⟩
    have HB := Lib.hid hb; clear hb ho
    go_wp2_with fail
    go_ret3
    exact ReadPost.mk HR.out HB.out
  · have HRa := Lib.hid (show readI s = if 0 ≤ diffI ⟨(showL ⟨(itemsI s).1.toArray⟩).toArray⟩ s then (⟨#[]⟩, diffI ⟨(showL ⟨(itemsI s).1.toArray⟩).toArray⟩ s, 1) else (⟨(itemsI s).1.toArray⟩, 0, 0) by unfold readI; rw [if_neg h])
    have hlz : (⟨(itemsI s).1.toArray⟩ : ByteArray).size ≤ 67108864 := by show (itemsI s).1.toArray.size ≤ _; rw [List.size_toArray]; omega
    have hsl := showL_size ⟨(itemsI s).1.toArray⟩
    go_enter Tryd.func11, Tryd.ntmps11
    go_wp2_with fail
    refine (items_any s hs _ hT).mono ?_
    rintro e w1 ⟨v, rfl, ho, hb⟩
    have HB := Lib.hid hb
    have hcv := conv_back ho
    have HCV := Lib.hid hcv; clear hcv hb ho
    go_wp2_with fail
    rw [HCV.out]
    simp only [Result.andThen]
    rw [Oper.upon_value]
    go_wp2_with fail
    refine (show_any _ hlz _).mono ?_
    rintro e w2 ⟨rfl, hb2⟩
    have HB2 : Hid (Below w.heap.size w w2) := Lib.hid (HB.out.trans (hb2.mono HB.out.size)); clear hb2
    generalize hwant : (⟨(showL ⟨(itemsI s).1.toArray⟩).toArray⟩ : ByteArray) = want at *
    have HW := Lib.hid hwant; clear hwant
    go_wp2_with fail
    go_loopw [9] (DiffRel want s w) (fun i _ => want.size + s.size - (intOf i).toNat)
    case atStart => exact ⟨0, want.size + s.size, rfl, by omega, rfl, by omega, HB2.out⟩
    case round =>
      obtain ⟨k, f, rfl, hk, hF, hfu, hbx⟩ := hrel
      have HF := Lib.hid hF; have HBX := Lib.hid hbx; clear hF hbx
      have HX := Lib.hid (show 0 ≤ diffI want s → readI s = (⟨#[]⟩, diffI want s, 1) from fun hh => by rw [HRa.out, if_pos hh])
      by_cases h1 : k < want.size
      · by_cases h2 : k < s.size
        · obtain ⟨g, rfl⟩ : ∃ g, f = g + 1 := ⟨f - 1, by omega⟩
          have d1 : decide (want.size ≤ k) = false := by simp; omega
          have d2 : decide (s.size ≤ k) = false := by simp; omega
          have i1 : (0 : Int) ≤ (k : Int) ∧ (k : Int) < (want.size : Int) := by omega
          have i2 : (0 : Int) ≤ (k : Int) ∧ (k : Int) < (s.size : Int) := by omega
          by_cases e : want.get! k = s.get! k
          · have HE := Lib.hid (diffF_go want s g k h1 h2 e)
            have he : ((want[k].toNat : Int) != (s[k].toNat : Int)) = false := by rw [← get_eq want k h1, ← get_eq s k h2, e]; simp
            clear e
            go_wp2
            go_quiet (fail)
            go_wp2
            go_roundw
            case rel =>
              have hfin : DiffRel want s w (.int .i64 ((k : Int) + 1)) (wr.drewN nq) := ⟨k + 1, g, by go_num, by omega, by rw [← HE.out]; exact HF.out, by omega, bdN HBX.out _⟩
              first
                | exact hfin
                | ((repeat apply Exists.intro); exact ⟨hfin, rfl⟩)
            case measure => simp [intOf]; omega
          · have HE := Lib.hid (diffF_stop want s g k (.inl h1) (fun hh => e hh.2.2))
            have he : ((want[k].toNat : Int) != (s[k].toNat : Int)) = true := by
              rw [← get_eq want k h1, ← get_eq s k h2]; simp
              intro hh; exact e (UInt8.toNat_inj.1 (by omega))
            clear e
            go_wp2
            go_quiet (fail)
            go_wp2
            go_ret3
            exact ReadPost.mk (by rw [HX.out (by rw [← HF.out, HE.out]; omega), ← HF.out, HE.out]) (bdN HBX.out _)
        · obtain ⟨g, rfl⟩ : ∃ g, f = g + 1 := ⟨f - 1, by omega⟩
          have HE := Lib.hid (diffF_stop want s g k (.inl h1) (fun hh => h2 hh.2.1))
          have d1 : decide (want.size ≤ k) = false := by simp; omega
          have d2 : decide (s.size ≤ k) = true := by simp; omega
          go_wp2
          go_quiet (fail)
          go_wp2
          go_ret3
          exact ReadPost.mk (by rw [HX.out (by rw [← HF.out, HE.out]; omega), ← HF.out, HE.out]) (bdN HBX.out _)
      · by_cases h2 : k < s.size
        · obtain ⟨g, rfl⟩ : ∃ g, f = g + 1 := ⟨f - 1, by omega⟩
          have HE := Lib.hid (diffF_stop want s g k (.inr h2) (fun hh => h1 hh.1))
          have d1 : decide (want.size ≤ k) = true := by simp; omega
          go_wp2
          go_quiet (fail)
          go_wp2
          go_ret3
          exact ReadPost.mk (by rw [HX.out (by rw [← HF.out, HE.out]; omega), ← HF.out, HE.out]) (bdN HBX.out _)
        · have HE := Lib.hid (diffF_end want s f k (by omega))
          have HQ : Hid (readI s = (⟨(itemsI s).1.toArray⟩, 0, 0)) := Lib.hid (by rw [HRa.out, if_neg (by rw [← HF.out, HE.out]; omega)])
          go_wp2
          go_ret3
          exact ReadPost.mk HQ.out HBX.out
end Go.Proofs.YtenhdbjkpopfmaaDoor

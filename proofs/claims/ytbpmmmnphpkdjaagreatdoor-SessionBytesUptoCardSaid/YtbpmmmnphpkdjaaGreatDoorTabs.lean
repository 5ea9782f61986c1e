/- What a row's list of package variables gives: the two tables of unicode/utf8 hold what their initialisers lay; they go on holding it in every later world. -/
import Derived.Test.YtbpmmmnphpkdjaaGreatDoorShelf
import Derived.Test.YtbpmmmnphpkdjaaGreatDoorRows
import Derived.Lib.LaidU8
import Derived.WalkKit
namespace Go.Proofs.YtbpmmmnphpkdjaaGreatDoor
open Go.RowKit

theorem u8Extra : U8Extra Tryz.prog Tryz.lays260_ren := ⟨by kernel_rfl, by kernel_rfl, by kernel_rfl, by kernel_rfl, by kernel_rfl, by kernel_rfl, by kernel_rfl⟩
theorem firstSame : Rows.laid_unicode_utf8_first = Lib.firstData := by kernel_rfl
theorem acceptSame : (Rows.laid_unicode_utf8_acceptRanges : DataW Unit) = Lib.acceptData := by kernel_rfl
theorem tabs_of_laid {W : World} (h : laidMetH Tryz.prog [("unicode/utf8.acceptRanges", Rows.laid_unicode_utf8_acceptRanges), ("unicode/utf8.first", Rows.laid_unicode_utf8_first)] W) : Lib.Utf8Tabs 0 1 W := by
  have h' : laidMet Tryz.prog [("unicode/utf8.acceptRanges", Rows.laid_unicode_utf8_acceptRanges), ("unicode/utf8.first", Rows.laid_unicode_utf8_first)] W := h
  rw [firstSame, acceptSame] at h'
  exact utf8Tabs_of_reads Tryz.lays260 u8Extra (Lib.laidMet.reads h' (by simp)) (Lib.laidMet.reads h' (by simp))
theorem tabs_lt {W : World} (h : Lib.Utf8Tabs 0 1 W) : 0 < W.heap.size ∧ 1 < W.heap.size :=
  ⟨World.block_lt_of_cell? W _ (h.1 0 (by decide)), World.block_lt_of_cell? W _ (h.2 0 (by decide)).1⟩
theorem tabs_below {W W' : World} {B : Nat} (h : Lib.Utf8Tabs 0 1 W) (hB : W.heap.size ≤ B) (hb : Below B W W') : Lib.Utf8Tabs 0 1 W' := by
  obtain ⟨l1, l2⟩ := tabs_lt h
  refine ⟨fun c hc => ?_, fun i hi => ?_⟩
  · rw [hb.cell (p := ⟨0, c, none⟩) (by show 0 < B; omega)]; exact h.1 c hc
  · rw [hb.cell (p := ⟨1, 2 * i, none⟩) (by show 1 < B; omega), hb.cell (p := ⟨1, 2 * i + 1, none⟩) (by show 1 < B; omega)]; exact h.2 i hi
end Go.Proofs.YtbpmmmnphpkdjaaGreatDoor

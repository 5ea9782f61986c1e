/- The walk of 'alive': it holds of this program. Condition: the tables of unicode/utf8 hold what their initialisers lay. -/
import Derived.Test.YtenhdbjkpopfmaaDoorRRead
import Derived.Test.YtenhdbjkpopfmaaDoorRMap
import Derived.Maps.OwnSet
namespace Go.Proofs.YtenhdbjkpopfmaaDoor
open Go.RowKit Go.Maps

theorem alive_read : readI ⟨#[34, 97, 92, 120, 48, 97, 34]⟩ = (⟨#[97, 10]⟩, 0, 0) := by decide +kernel
theorem alive_show : (showL ⟨#[10]⟩) = [34, 92, 120, 48, 97, 34] := by decide +kernel
theorem alive_units : unitsI ⟨#[97, 195, 169]⟩ = 2 := by decide +kernel
theorem alive_kind : kindI 97 = 1 := by decide +kernel
theorem alive_cnt1 : cntI ⟨#[97, 0]⟩ 1 = 1 := by decide +kernel
theorem alive_cnt2 : cntI ⟨#[97, 0]⟩ 2 = 1 := by decide +kernel
theorem alive_kinds : kindsOf (cntI ⟨#[97, 0]⟩) = 2 := by decide +kernel

set_option maxRecDepth 100000 in
set_option maxHeartbeats 2000000 in
theorem alive_any (w : World) (hT : Lib.Utf8Tabs 0 1 w) :
    Calls Tryd.prog 10 #[] w fun e w' => e = .returned (.bool true) ∧ Below w.heap.size w w' := by
  go_enter Tryd.func10, Tryd.ntmps10
  go_wp2_with fail
  refine (read_any _ (by decide) _ hT).mono ?_
  rintro e w1 ⟨rfl, hb1⟩
  have HB1 := Lib.hid hb1; clear hb1
  rw [alive_read]
  go_wp2_with fail
  refine (kinds_any (H := Unit) _ (by decide) _).mono ?_
  rintro e w2 ⟨D, rfl, ho, hc, hb2⟩
  have HB2 : Hid (Below w.heap.size w w2) := Lib.hid (HB1.out.trans (hb2.mono HB1.out.size))
  have hlen := fun ty => ho.len Tryd.underlying22 ty
  rw [hc.2.2, alive_kinds] at hlen
  obtain ⟨x, hlook, hat, hwx⟩ := ho.lookup_int keyInt Tryd.underlying22 Tryd.underlying3 (zeroInt _) (keyOf_int_mk Tryd.underlying3 (wf_small 1 (by omega) (by omega)))
  have hx := cnt_val hc hat
  rw [alive_cnt1] at hx
  subst hx
  clear hat hwx ho hc hb2
  generalize w1.heap.size = m at *
  go_wp2_with fail
  refine (kind_any _ _).mono ?_
  rintro e w' ⟨rfl, rfl⟩
  rw [alive_kind]
  go_wp2_with fail
  refine (units_any _ (by decide) _).mono ?_
  rintro e w3 ⟨rfl, hb3⟩
  have HB3 : Hid (Below w.heap.size w w3) := Lib.hid (HB2.out.trans (hb3.mono HB2.out.size)); clear hb3
  rw [alive_units]
  go_wp2_with fail
  refine (show_any _ (by decide) _).mono ?_
  rintro e w4 ⟨rfl, hb4⟩
  have HB4 : Hid (Below w.heap.size w w4) := Lib.hid (HB3.out.trans (hb4.mono HB3.out.size)); clear hb4
  rw [alive_show]
  go_wp2_with fail
  go_ret
  exact ⟨by first | rfl | simp, HB4.out⟩
end Go.Proofs.YtenhdbjkpopfmaaDoor

/- The walk of DeltaOne. Condition: a delta's lists have at most 2^20. -/
import Derived.Test.YthpjneobmmpbnaaGreatDoorDLwR
import Derived.Test.YthpjneobmmpbnaaGreatDoorDDlB
import Derived.Test.YthpjneobmmpbnaaGreatDoorDRfF
import Derived.Test.YthpjneobmmpbnaaGreatDoorDHeld
import Derived.Test.YthpjneobmmpbnaaGreatDoorDCde
namespace Go.Proofs.YthpjneobmmpbnaaGreatDoor
open Go.RowKit Go.MapKept Go.Maps
set_option linter.unusedSimpArgs false in
set_option maxRecDepth 100000 in
set_option maxHeartbeats 20000000 in
theorem deltaOne_any (h h2 : DlH) (d d2 : DlT) (w : World) (R R2 : Nat → Prop) (hd : DlAt w R h d) (hd2 : DlAt w R2 h2 d2) (hE : Env w) (hsm : DlSm 1048576 d) (hsm2 : DlSm 1048576 d2) : Calls Tryz.prog 10 #[dlV h, dlV h2] w (RetB w true) := by
  have hb1 : Below w.heap.size w (w.alloc (.cells #[.int .i64 h.se, .int .i32 h.xi, .int .i64 h.zx, .int .i64 h.ti, .int .i32 h.t.n.ty, .string h.t.n.path, slV h.t.d, slV h.t.a, .int .i64 h.t.n.ow, .int .i32 h.t.n.ve, .int .i32 h.t.n.cr, .bool h.t.n.qh, .int .i64 h.t.n.qc, .int .i64 h.t.n.qb, .int .i64 h.t.n.si, .int .i32 h.t.n.st, slV h.t.i, slV h.t.p, .int .i32 h.t.n.co, slV h.t.s] 35)) := (Below.refl _ w).alloc (Nat.le_refl _) _
  have hb2 : Below w.heap.size w ((w.alloc (.cells #[.int .i64 h.se, .int .i32 h.xi, .int .i64 h.zx, .int .i64 h.ti, .int .i32 h.t.n.ty, .string h.t.n.path, slV h.t.d, slV h.t.a, .int .i64 h.t.n.ow, .int .i32 h.t.n.ve, .int .i32 h.t.n.cr, .bool h.t.n.qh, .int .i64 h.t.n.qc, .int .i64 h.t.n.qb, .int .i64 h.t.n.si, .int .i32 h.t.n.st, slV h.t.i, slV h.t.p, .int .i32 h.t.n.co, slV h.t.s] 35)).alloc (.cells #[.int .i64 h2.se, .int .i32 h2.xi, .int .i64 h2.zx, .int .i64 h2.ti, .int .i32 h2.t.n.ty, .string h2.t.n.path, slV h2.t.d, slV h2.t.a, .int .i64 h2.t.n.ow, .int .i32 h2.t.n.ve, .int .i32 h2.t.n.cr, .bool h2.t.n.qh, .int .i64 h2.t.n.qc, .int .i64 h2.t.n.qb, .int .i64 h2.t.n.si, .int .i32 h2.t.n.st, slV h2.t.i, slV h2.t.p, .int .i32 h2.t.n.co, slV h2.t.s] 35)) := hb1.alloc hb1.size _
  have HB1 := Lib.hid hb2
  have HE := Lib.hid hE
  have g0 := heap_under (o := (.cells #[.int .i64 h2.se, .int .i32 h2.xi, .int .i64 h2.zx, .int .i64 h2.ti, .int .i32 h2.t.n.ty, .string h2.t.n.path, slV h2.t.d, slV h2.t.a, .int .i64 h2.t.n.ow, .int .i32 h2.t.n.ve, .int .i32 h2.t.n.cr, .bool h2.t.n.qh, .int .i64 h2.t.n.qc, .int .i64 h2.t.n.qb, .int .i64 h2.t.n.si, .int .i32 h2.t.n.st, slV h2.t.i, slV h2.t.p, .int .i32 h2.t.n.co, slV h2.t.s] 35)) (heap_s0 w (.cells #[.int .i64 h.se, .int .i32 h.xi, .int .i64 h.zx, .int .i64 h.ti, .int .i32 h.t.n.ty, .string h.t.n.path, slV h.t.d, slV h.t.a, .int .i64 h.t.n.ow, .int .i32 h.t.n.ve, .int .i32 h.t.n.cr, .bool h.t.n.qh, .int .i64 h.t.n.qc, .int .i64 h.t.n.qb, .int .i64 h.t.n.si, .int .i32 h.t.n.st, slV h.t.i, slV h.t.p, .int .i32 h.t.n.co, slV h.t.s] 35))
  have k0 := heap_s1 w (.cells #[.int .i64 h.se, .int .i32 h.xi, .int .i64 h.zx, .int .i64 h.ti, .int .i32 h.t.n.ty, .string h.t.n.path, slV h.t.d, slV h.t.a, .int .i64 h.t.n.ow, .int .i32 h.t.n.ve, .int .i32 h.t.n.cr, .bool h.t.n.qh, .int .i64 h.t.n.qc, .int .i64 h.t.n.qb, .int .i64 h.t.n.si, .int .i32 h.t.n.st, slV h.t.i, slV h.t.p, .int .i32 h.t.n.co, slV h.t.s] 35) (.cells #[.int .i64 h2.se, .int .i32 h2.xi, .int .i64 h2.zx, .int .i64 h2.ti, .int .i32 h2.t.n.ty, .string h2.t.n.path, slV h2.t.d, slV h2.t.a, .int .i64 h2.t.n.ow, .int .i32 h2.t.n.ve, .int .i32 h2.t.n.cr, .bool h2.t.n.qh, .int .i64 h2.t.n.qc, .int .i64 h2.t.n.qb, .int .i64 h2.t.n.si, .int .i32 h2.t.n.st, slV h2.t.i, slV h2.t.p, .int .i32 h2.t.n.co, slV h2.t.s] 35)
  have HZ := Lib.hid (sz2 w (.cells #[.int .i64 h.se, .int .i32 h.xi, .int .i64 h.zx, .int .i64 h.ti, .int .i32 h.t.n.ty, .string h.t.n.path, slV h.t.d, slV h.t.a, .int .i64 h.t.n.ow, .int .i32 h.t.n.ve, .int .i32 h.t.n.cr, .bool h.t.n.qh, .int .i64 h.t.n.qc, .int .i64 h.t.n.qb, .int .i64 h.t.n.si, .int .i32 h.t.n.st, slV h.t.i, slV h.t.p, .int .i32 h.t.n.co, slV h.t.s] 35) (.cells #[.int .i64 h2.se, .int .i32 h2.xi, .int .i64 h2.zx, .int .i64 h2.ti, .int .i32 h2.t.n.ty, .string h2.t.n.path, slV h2.t.d, slV h2.t.a, .int .i64 h2.t.n.ow, .int .i32 h2.t.n.ve, .int .i32 h2.t.n.cr, .bool h2.t.n.qh, .int .i64 h2.t.n.qc, .int .i64 h2.t.n.qb, .int .i64 h2.t.n.si, .int .i32 h2.t.n.st, slV h2.t.i, slV h2.t.p, .int .i32 h2.t.n.co, slV h2.t.s] 35))
  have HSM := Lib.hid hsm; have HSM2 := Lib.hid hsm2
  have HDW := Lib.hid (fun (V : World) (hV : Below w.heap.size w V) => (show DlAt V (fun _ => True) h d from ⟨hd.1, TxAt.tru hd.2 hV⟩))
  have HDV := Lib.hid (fun (V : World) (hV : Below w.heap.size w V) => (show DlAt V (fun _ => True) h2 d2 from ⟨hd2.1, TxAt.tru hd2.2 hV⟩))
  have HAL := Lib.hid (alive13_any ((w.alloc (.cells #[.int .i64 h.se, .int .i32 h.xi, .int .i64 h.zx, .int .i64 h.ti, .int .i32 h.t.n.ty, .string h.t.n.path, slV h.t.d, slV h.t.a, .int .i64 h.t.n.ow, .int .i32 h.t.n.ve, .int .i32 h.t.n.cr, .bool h.t.n.qh, .int .i64 h.t.n.qc, .int .i64 h.t.n.qb, .int .i64 h.t.n.si, .int .i32 h.t.n.st, slV h.t.i, slV h.t.p, .int .i32 h.t.n.co, slV h.t.s] 35)).alloc (.cells #[.int .i64 h2.se, .int .i32 h2.xi, .int .i64 h2.zx, .int .i64 h2.ti, .int .i32 h2.t.n.ty, .string h2.t.n.path, slV h2.t.d, slV h2.t.a, .int .i64 h2.t.n.ow, .int .i32 h2.t.n.ve, .int .i32 h2.t.n.cr, .bool h2.t.n.qh, .int .i64 h2.t.n.qc, .int .i64 h2.t.n.qb, .int .i64 h2.t.n.si, .int .i32 h2.t.n.st, slV h2.t.i, slV h2.t.p, .int .i32 h2.t.n.co, slV h2.t.s] 35)) (hE.below (Nat.le_refl _) hb2))
  clear hb1 hb2 hd hd2 hE hsm hsm2
  go_enter Tryz.func10, Tryz.ntmps10
  go_upto_region 1 with fail
  change Code.wp _ _ _ _ ((w.alloc (.cells #[.int .i64 h.se, .int .i32 h.xi, .int .i64 h.zx, .int .i64 h.ti, .int .i32 h.t.n.ty, .string h.t.n.path, slV h.t.d, slV h.t.a, .int .i64 h.t.n.ow, .int .i32 h.t.n.ve, .int .i32 h.t.n.cr, .bool h.t.n.qh, .int .i64 h.t.n.qc, .int .i64 h.t.n.qb, .int .i64 h.t.n.si, .int .i32 h.t.n.st, slV h.t.i, slV h.t.p, .int .i32 h.t.n.co, slV h.t.s] 35)).alloc (.cells #[.int .i64 h2.se, .int .i32 h2.xi, .int .i64 h2.zx, .int .i64 h2.ti, .int .i32 h2.t.n.ty, .string h2.t.n.path, slV h2.t.d, slV h2.t.a, .int .i64 h2.t.n.ow, .int .i32 h2.t.n.ve, .int .i32 h2.t.n.cr, .bool h2.t.n.qh, .int .i64 h2.t.n.qc, .int .i64 h2.t.n.qb, .int .i64 h2.t.n.si, .int .i32 h2.t.n.st, slV h2.t.i, slV h2.t.p, .int .i32 h2.t.n.co, slV h2.t.s] 35))
  generalize ((w.alloc (.cells #[.int .i64 h.se, .int .i32 h.xi, .int .i64 h.zx, .int .i64 h.ti, .int .i32 h.t.n.ty, .string h.t.n.path, slV h.t.d, slV h.t.a, .int .i64 h.t.n.ow, .int .i32 h.t.n.ve, .int .i32 h.t.n.cr, .bool h.t.n.qh, .int .i64 h.t.n.qc, .int .i64 h.t.n.qb, .int .i64 h.t.n.si, .int .i32 h.t.n.st, slV h.t.i, slV h.t.p, .int .i32 h.t.n.co, slV h.t.s] 35)).alloc (.cells #[.int .i64 h2.se, .int .i32 h2.xi, .int .i64 h2.zx, .int .i64 h2.ti, .int .i32 h2.t.n.ty, .string h2.t.n.path, slV h2.t.d, slV h2.t.a, .int .i64 h2.t.n.ow, .int .i32 h2.t.n.ve, .int .i32 h2.t.n.cr, .bool h2.t.n.qh, .int .i64 h2.t.n.qc, .int .i64 h2.t.n.qb, .int .i64 h2.t.n.si, .int .i32 h2.t.n.st, slV h2.t.i, slV h2.t.p, .int .i32 h2.t.n.co, slV h2.t.s] 35)) = V at *
  go_wp2_with fail
  refine HAL.out.mono ?_
  rintro e w0 ⟨rfl, hb0⟩
  have HB0 := Lib.hid (HB1.out.trans (hb0.mono HB1.out.size))
  replace g0 := (hb0.block w.heap.size (by have := HZ.out; omega)).trans g0
  replace k0 := (hb0.block (w.heap.size + 1) (by have := HZ.out; omega)).trans k0
  have HLT := Lib.hid (Array.getElem?_eq_some_iff.1 k0).1
  clear hb0 HB1 HAL
  have HG1 := Lib.hid (bigDl_any d h w0 _ (HDW.out _ HB0.out) HSM.out)
  go_wp2_with (first | (apply wpList_loadRow 35 35; exact rfl; exact rfl; exact rfl; assumption; exact undDl; exact rfl; exact infDl) | fail)
  refine HG1.out.mono ?_
  rintro e w1 ⟨⟨b, rfl⟩, hb2⟩
  have HB2 := Lib.hid (HB0.out.trans (hb2.mono HB0.out.size))
  have g1 := (hb2.block w.heap.size (Array.getElem?_eq_some_iff.1 g0).1).trans g0
  have k1 := (hb2.block (w.heap.size + 1) (Array.getElem?_eq_some_iff.1 k0).1).trans k0
  clear hb2 g0 k0 HG1 HB0
  cases b
  case true =>
    go_wp2_with fail
    go_ret
    exact RetB.mk HB2.out rfl
  have HG2 := Lib.hid (bigDl_any d2 h2 w1 _ (HDV.out _ HB2.out) HSM2.out)
  go_wp2_with (first | (apply wpList_loadRowW 35 35; exact rfl; exact rfl; exact rfl; assumption; exact undDl; exact rfl; exact infDl) | fail)
  refine HG2.out.mono ?_
  rintro e w2 ⟨⟨b, rfl⟩, hb3⟩
  have HB3 := Lib.hid (HB2.out.trans (hb3.mono HB2.out.size))
  have g2 := (hb3.block w.heap.size (Array.getElem?_eq_some_iff.1 g1).1).trans g1
  have k2 := (hb3.block (w.heap.size + 1) (Array.getElem?_eq_some_iff.1 k1).1).trans k1
  clear hb3 g1 k1 HG2 HB2
  cases b
  case true =>
    go_wp2_with fail
    go_ret
    exact RetB.mk HB3.out rfl
  have HE1 := Lib.hid (encode_any h d w2 _ (HDW.out _ HB3.out) (HE.out.below (Nat.le_refl _) HB3.out) HSM.out)
  go_wp2_with (first | (apply wpList_loadRow 35 35; exact rfl; exact rfl; exact rfl; assumption; exact undDl; exact rfl; exact infDl) | fail)
  refine HE1.out.mono ?_
  rintro e w3 ⟨hb4, hm⟩
  have HB4 := Lib.hid (HB3.out.trans (hb4.mono HB3.out.size))
  have g3 := (hb4.block w.heap.size (Array.getElem?_eq_some_iff.1 g2).1).trans g2
  have k3 := (hb4.block (w.heap.size + 1) (Array.getElem?_eq_some_iff.1 k2).1).trans k2
  clear hb4 g2 k2 HE1 HB3
  have HE2 := Lib.hid (encode_any h2 d2 w3 _ (HDV.out _ HB4.out) (HE.out.below (Nat.le_refl _) HB4.out) HSM2.out)
  rcases hm with ⟨hr, rfl⟩ | ⟨hr, A, c, rfl, hrow⟩
  · generalize rightE d = x at *
    have b1 : (x != 0) = true := bne_iff_ne.2 hr
    clear hr
    go_wp2_with (first | (apply wpList_loadRow 35 35; exact rfl; exact rfl; exact rfl; assumption; exact undDl; exact rfl; exact infDl) | fail)
    refine HE2.out.mono ?_
    rintro e w4 ⟨hb5, hm⟩
    have HB5 := Lib.hid (HB4.out.trans (hb5.mono HB4.out.size))
    clear hb5 g3 k3 HE2
    rcases hm with ⟨hr, rfl⟩ | ⟨hr, A2, c2, rfl, hrow2⟩
    · generalize rightE d2 = x2 at *
      clear hr
      go_wp2_with fail
      go_quiet (fail)
      go_wp2_with fail
      go_ret
      exact RetB.mk (drewN_below HB5.out _) rfl
    · generalize (encB d2).length = n2 at *
      clear hrow2 hr
      go_wp2_with fail
      go_quiet (fail)
      go_wp2_with fail
      go_ret
      exact RetB.mk (drewN_below HB5.out _) rfl
  have HRW := Lib.hid (Row8.sl hrow rfl)
  have HR1 := Lib.hid hr
  clear hrow hr
  go_wp2_with (first | (apply wpList_loadRow 35 35; exact rfl; exact rfl; exact rfl; assumption; exact undDl; exact rfl; exact infDl) | fail)
  refine HE2.out.mono ?_
  rintro e w4 ⟨hb5, hm⟩
  have HB5 := Lib.hid (HB4.out.trans (hb5.mono HB4.out.size))
  have g4 := (hb5.block w.heap.size (Array.getElem?_eq_some_iff.1 g3).1).trans g3
  have k4 := (hb5.block (w.heap.size + 1) (Array.getElem?_eq_some_iff.1 k3).1).trans k3
  replace HRW := Lib.hid (HRW.out.belowMore hb5 hb5.size)
  clear hb5 g3 k3 HE2
  rcases hm with ⟨hr, rfl⟩ | ⟨hr, A2, c2, rfl, hrow2⟩
  · generalize rightE d2 = x at *
    have b1 : (x != 0) = true := bne_iff_ne.2 hr
    generalize (encB d).length = n at *
    clear hr g4 k4 HRW HR1
    go_wp2_with fail
    go_quiet (fail)
    go_wp2_with fail
    go_ret
    exact RetB.mk (drewN_below HB5.out _) rfl
  have HRX := Lib.hid (Row8.sl hrow2 rfl)
  have hinj := enc_inj HR1.out hr HSM.out HSM2.out
  have HSB := Lib.hid (show ((toBA (encB d)).toList == (toBA (encB d2)).toList) = sameD d d2 by
    by_cases e : d = d2
    · rw [sameD_eq e, e]; exact str_eq rfl
    · rw [sameD_ne e]
      refine str_ne fun e2 => e (hinj ?_)
      have := congrArg (fun s : ByteArray => s.data.toList) e2
      simpa [toBA] using this)
  clear hrow2 hr HR1 hinj
  have HL := Lib.hid (row_grown (rangeAt_heapC (pre := []) (mid := [.int .i64 h.se, .int .i32 h.xi, .int .i64 h.zx, .int .i64 h.ti, .int .i32 h.t.n.ty, .string h.t.n.path, slV h.t.d, slV h.t.a, .int .i64 h.t.n.ow, .int .i32 h.t.n.ve, .int .i32 h.t.n.cr, .bool h.t.n.qh, .int .i64 h.t.n.qc, .int .i64 h.t.n.qb, .int .i64 h.t.n.si, .int .i32 h.t.n.st, slV h.t.i, slV h.t.p, .int .i32 h.t.n.co, slV h.t.s]) (post := []) g4 rfl rfl))
  have HL2 := Lib.hid (row_grown (rangeAt_heapC (pre := []) (mid := [.int .i64 h2.se, .int .i32 h2.xi, .int .i64 h2.zx, .int .i64 h2.ti, .int .i32 h2.t.n.ty, .string h2.t.n.path, slV h2.t.d, slV h2.t.a, .int .i64 h2.t.n.ow, .int .i32 h2.t.n.ve, .int .i32 h2.t.n.cr, .bool h2.t.n.qh, .int .i64 h2.t.n.qc, .int .i64 h2.t.n.qb, .int .i64 h2.t.n.si, .int .i32 h2.t.n.st, slV h2.t.i, slV h2.t.p, .int .i32 h2.t.n.co, slV h2.t.s]) (post := []) k4 rfl rfl))
  have CS := Lib.hid (fun (n : Nat) (os : Array Obj) => Calls.regrown_of (samePD_any d d2 h h2 (Go.Sort.grow (redrawn w4 n) os) _ _ (HDW.out _ (HB5.out.trans ((below_regrown w4 n os).mono HB5.out.size))) (HDV.out _ (HB5.out.trans ((below_regrown w4 n os).mono HB5.out.size))) HSM.out HSM2.out))
  have CV1 := fun (n : Nat) (os : Array Obj) => conv_slT (c := c) (HRW.out.belowMore (below_regrown w4 n os) (below_regrown w4 n os).size)
  have CV2 := fun (n : Nat) (os : Array Obj) => conv_slT (c := c2) (HRX.out.belowMore (below_regrown w4 n os) (below_regrown w4 n os).size)
  have hsb := HSB.out
  generalize (encB d).length = n1 at *
  generalize (encB d2).length = n2 at *
  generalize toBA (encB d) = t1 at *
  generalize toBA (encB d2) = t2 at *
  generalize sameD d d2 = sb at *
  clear g4 k4
  go_upto_region 7 with fail
  refine wp_region_quiet_below (by kernel_rfl) (by kernel_rfl) ?_
  repeat (first | (refine wpQuiet_load 35 HL.out (by rfl) rfl rfl undDl rfl infDl ?_; simp only [Act.put, List.setIfInBounds_toArray, List.set_cons_zero, List.set_cons_succ]) | (refine wpQuiet_load 35 HL2.out (by rfl) rfl rfl undDl rfl infDl ?_; simp only [Act.put, List.setIfInBounds_toArray, List.set_cons_zero, List.set_cons_succ]) | go_big_quiet_step ((exact CS.out _ _)))
  refine wpQuiet_nil ?_
  intro _ hw'
  obtain ⟨⟨dq, osq⟩, hw''⟩ := hw'
  subst hw''
  have HBF := Lib.hid (HB5.out.trans ((below_regrown w4 dq osq).mono HB5.out.size))
  clear HL HL2 CS CV1 CV2
  go_wp2_with fail
  go_ret
  exact RetB.mk HBF.out rfl
end Go.Proofs.YthpjneobmmpbnaaGreatDoor

/- The walk of DeltaSames. Condition: a delta's lists have at most 2^20. -/
import Derived.Test.YthpjneobmmpbnaaGreatDoorDLwR
import Derived.Test.YthpjneobmmpbnaaGreatDoorDDlB
import Derived.Test.YthpjneobmmpbnaaGreatDoorDRfF
import Derived.Test.YthpjneobmmpbnaaGreatDoorDHeld
namespace Go.Proofs.YthpjneobmmpbnaaGreatDoor
open Go.RowKit Go.MapKept Go.Maps
set_option linter.unusedSimpArgs false in
set_option maxRecDepth 100000 in
set_option maxHeartbeats 20000000 in
theorem deltaSames_any (h h2 : DlH) (d d2 : DlT) (w : World) (R R2 : Nat → Prop) (hd : DlAt w R h d) (hd2 : DlAt w R2 h2 d2) (hE : Env w) (hsm : DlSm 1048576 d) (hsm2 : DlSm 1048576 d2) : Calls Tryz.prog 11 #[dlV h, dlV h2] w (RetB w true) := by
  have hb1 : Below w.heap.size w (w.alloc (.cells #[.int .i64 h.se, .int .i32 h.xi, .int .i64 h.zx, .int .i64 h.ti, .int .i32 h.t.n.ty, .string h.t.n.path, slV h.t.d, slV h.t.a, .int .i64 h.t.n.ow, .int .i32 h.t.n.ve, .int .i32 h.t.n.cr, .bool h.t.n.qh, .int .i64 h.t.n.qc, .int .i64 h.t.n.qb, .int .i64 h.t.n.si, .int .i32 h.t.n.st, slV h.t.i, slV h.t.p, .int .i32 h.t.n.co, slV h.t.s] 35)) := (Below.refl _ w).alloc (Nat.le_refl _) _
  have hb2 : Below w.heap.size w ((w.alloc (.cells #[.int .i64 h.se, .int .i32 h.xi, .int .i64 h.zx, .int .i64 h.ti, .int .i32 h.t.n.ty, .string h.t.n.path, slV h.t.d, slV h.t.a, .int .i64 h.t.n.ow, .int .i32 h.t.n.ve, .int .i32 h.t.n.cr, .bool h.t.n.qh, .int .i64 h.t.n.qc, .int .i64 h.t.n.qb, .int .i64 h.t.n.si, .int .i32 h.t.n.st, slV h.t.i, slV h.t.p, .int .i32 h.t.n.co, slV h.t.s] 35)).alloc (.cells #[.int .i64 h2.se, .int .i32 h2.xi, .int .i64 h2.zx, .int .i64 h2.ti, .int .i32 h2.t.n.ty, .string h2.t.n.path, slV h2.t.d, slV h2.t.a, .int .i64 h2.t.n.ow, .int .i32 h2.t.n.ve, .int .i32 h2.t.n.cr, .bool h2.t.n.qh, .int .i64 h2.t.n.qc, .int .i64 h2.t.n.qb, .int .i64 h2.t.n.si, .int .i32 h2.t.n.st, slV h2.t.i, slV h2.t.p, .int .i32 h2.t.n.co, slV h2.t.s] 35)) := hb1.alloc hb1.size _
  have HB1 := Lib.hid hb2
  have HE := Lib.hid hE
  have g0 := heap_under (o := (.cells #[.int .i64 h2.se, .int .i32 h2.xi, .int .i64 h2.zx, .int .i64 h2.ti, .int .i32 h2.t.n.ty, .string h2.t.n.path, slV h2.t.d, slV h2.t.a, .int .i64 h2.t.n.ow, .int .i32 h2.t.n.ve, .int .i32 h2.t.n.cr, .bool h2.t.n.qh, .int .i64 h2.t.n.qc, .int .i64 h2.t.n.qb, .int .i64 h2.t.n.si, .int .i32 h2.t.n.st, slV h2.t.i, slV h2.t.p, .int .i32 h2.t.n.co, slV h2.t.s] 35)) (heap_s0 w (.cells #[.int .i64 h.se, .int .i32 h.xi, .int .i64 h.zx, .int .i64 h.ti, .int .i32 h.t.n.ty, .string h.t.n.path, slV h.t.d, slV h.t.a, .int .i64 h.t.n.ow, .int .i32 h.t.n.ve, .int .i32 h.t.n.cr, .bool h.t.n.qh, .int .i64 h.t.n.qc, .int .i64 h.t.n.qb, .int .i64 h.t.n.si, .int .i32 h.t.n.st, slV h.t.i, slV h.t.p, .int .i32 h.t.n.co, slV h.t.s] 35))
  have k0 := heap_s1 w (.cells #[.int .i64 h.se, .int .i32 h.xi, .int .i64 h.zx, .int .i64 h.ti, .int .i32 h.t.n.ty, .string h.t.n.path, slV h.t.d, slV h.t.a, .int .i64 h.t.n.ow, .int .i32 h.t.n.ve, .int .i32 h.t.n.cr, .bool h.t.n.qh, .int .i64 h.t.n.qc, .int .i64 h.t.n.qb, .int .i64 h.t.n.si, .int .i32 h.t.n.st, slV h.t.i, slV h.t.p, .int .i32 h.t.n.co, slV h.t.s] 35) (.cells #[.int .i64 h2.se, .int .i32 h2.xi, .int .i64 h2.zx, .int .i64 h2.ti, .int .i32 h2.t.n.ty, .string h2.t.n.path, slV h2.t.d, slV h2.t.a, .int .i64 h2.t.n.ow, .int .i32 h2.t.n.ve, .int .i32 h2.t.n.cr, .bool h2.t.n.qh, .int .i64 h2.t.n.qc, .int .i64 h2.t.n.qb, .int .i64 h2.t.n.si, .int .i32 h2.t.n.st, slV h2.t.i, slV h2.t.p, .int .i32 h2.t.n.co, slV h2.t.s] 35)
  have HZ := Lib.hid (sz2 w (.cells #[.int .i64 h.se, .int .i32 h.xi, .int .i64 h.zx, .int .i64 h.ti, .int .i32 h.t.n.ty, .string h.t.n.path, slV h.t.d, slV h.t.a, .int .i64 h.t.n.ow, .int .i32 h.t.n.ve, .int .i32 h.t.n.cr, .bool h.t.n.qh, .int .i64 h.t.n.qc, .int .i64 h.t.n.qb, .int .i64 h.t.n.si, .int .i32 h.t.n.st, slV h.t.i, slV h.t.p, .int .i32 h.t.n.co, slV h.t.s] 35) (.cells #[.int .i64 h2.se, .int .i32 h2.xi, .int .i64 h2.zx, .int .i64 h2.ti, .int .i32 h2.t.n.ty, .string h2.t.n.path, slV h2.t.d, slV h2.t.a, .int .i64 h2.t.n.ow, .int .i32 h2.t.n.ve, .int .i32 h2.t.n.cr, .bool h2.t.n.qh, .int .i64 h2.t.n.qc, .int .i64 h2.t.n.qb, .int .i64 h2.t.n.si, .int .i32 h2.t.n.st, slV h2.t.i, slV h2.t.p, .int .i32 h2.t.n.co, slV h2.t.s] 35))
  have HSM := Lib.hid hsm; have HSM2 := Lib.hid hsm2
  have HDW := Lib.hid (fun (V : World) (hV : Below w.heap.size w V) => (show DlAt V (fun _ => True) h d from ⟨hd.1, TxAt.tru hd.2 hV⟩))
  have HDV := Lib.hid (fun (V : World) (hV : Below w.heap.size w V) => (show DlAt V (fun _ => True) h2 d2 from ⟨hd2.1, TxAt.tru hd2.2 hV⟩))
  have HG1 := Lib.hid (bigDl_any d h ((w.alloc (.cells #[.int .i64 h.se, .int .i32 h.xi, .int .i64 h.zx, .int .i64 h.ti, .int .i32 h.t.n.ty, .string h.t.n.path, slV h.t.d, slV h.t.a, .int .i64 h.t.n.ow, .int .i32 h.t.n.ve, .int .i32 h.t.n.cr, .bool h.t.n.qh, .int .i64 h.t.n.qc, .int .i64 h.t.n.qb, .int .i64 h.t.n.si, .int .i32 h.t.n.st, slV h.t.i, slV h.t.p, .int .i32 h.t.n.co, slV h.t.s] 35)).alloc (.cells #[.int .i64 h2.se, .int .i32 h2.xi, .int .i64 h2.zx, .int .i64 h2.ti, .int .i32 h2.t.n.ty, .string h2.t.n.path, slV h2.t.d, slV h2.t.a, .int .i64 h2.t.n.ow, .int .i32 h2.t.n.ve, .int .i32 h2.t.n.cr, .bool h2.t.n.qh, .int .i64 h2.t.n.qc, .int .i64 h2.t.n.qb, .int .i64 h2.t.n.si, .int .i32 h2.t.n.st, slV h2.t.i, slV h2.t.p, .int .i32 h2.t.n.co, slV h2.t.s] 35)) _ (HDW.out _ hb2) hsm)
  clear hb1 hb2 hd hd2 hE hsm hsm2
  go_enter Tryz.func11, Tryz.ntmps11
  go_upto_region 1 with fail
  change Code.wp _ _ _ _ ((w.alloc (.cells #[.int .i64 h.se, .int .i32 h.xi, .int .i64 h.zx, .int .i64 h.ti, .int .i32 h.t.n.ty, .string h.t.n.path, slV h.t.d, slV h.t.a, .int .i64 h.t.n.ow, .int .i32 h.t.n.ve, .int .i32 h.t.n.cr, .bool h.t.n.qh, .int .i64 h.t.n.qc, .int .i64 h.t.n.qb, .int .i64 h.t.n.si, .int .i32 h.t.n.st, slV h.t.i, slV h.t.p, .int .i32 h.t.n.co, slV h.t.s] 35)).alloc (.cells #[.int .i64 h2.se, .int .i32 h2.xi, .int .i64 h2.zx, .int .i64 h2.ti, .int .i32 h2.t.n.ty, .string h2.t.n.path, slV h2.t.d, slV h2.t.a, .int .i64 h2.t.n.ow, .int .i32 h2.t.n.ve, .int .i32 h2.t.n.cr, .bool h2.t.n.qh, .int .i64 h2.t.n.qc, .int .i64 h2.t.n.qb, .int .i64 h2.t.n.si, .int .i32 h2.t.n.st, slV h2.t.i, slV h2.t.p, .int .i32 h2.t.n.co, slV h2.t.s] 35))
  generalize ((w.alloc (.cells #[.int .i64 h.se, .int .i32 h.xi, .int .i64 h.zx, .int .i64 h.ti, .int .i32 h.t.n.ty, .string h.t.n.path, slV h.t.d, slV h.t.a, .int .i64 h.t.n.ow, .int .i32 h.t.n.ve, .int .i32 h.t.n.cr, .bool h.t.n.qh, .int .i64 h.t.n.qc, .int .i64 h.t.n.qb, .int .i64 h.t.n.si, .int .i32 h.t.n.st, slV h.t.i, slV h.t.p, .int .i32 h.t.n.co, slV h.t.s] 35)).alloc (.cells #[.int .i64 h2.se, .int .i32 h2.xi, .int .i64 h2.zx, .int .i64 h2.ti, .int .i32 h2.t.n.ty, .string h2.t.n.path, slV h2.t.d, slV h2.t.a, .int .i64 h2.t.n.ow, .int .i32 h2.t.n.ve, .int .i32 h2.t.n.cr, .bool h2.t.n.qh, .int .i64 h2.t.n.qc, .int .i64 h2.t.n.qb, .int .i64 h2.t.n.si, .int .i32 h2.t.n.st, slV h2.t.i, slV h2.t.p, .int .i32 h2.t.n.co, slV h2.t.s] 35)) = V at *
  go_wp2_with (first | (apply wpList_loadRow 35 35; exact rfl; exact rfl; exact rfl; assumption; exact undDl; exact rfl; exact infDl) | fail)
  refine HG1.out.mono ?_
  rintro e w1 ⟨⟨b, rfl⟩, hb2⟩
  have HB2 := Lib.hid (HB1.out.trans (hb2.mono HB1.out.size))
  have g1 := (hb2.block w.heap.size (by have := HZ.out; omega)).trans g0
  have k1 := (hb2.block (w.heap.size + 1) (by have := HZ.out; omega)).trans k0
  clear hb2 g0 k0 HG1 HB1
  cases b
  case true =>
    have HAL := Lib.hid (alive13_any w1 (HE.out.below (Nat.le_refl _) HB2.out))
    go_wp2_with fail
    refine HAL.out.mono ?_
    rintro e w2 ⟨rfl, hb3⟩
    have HB3 := Lib.hid (HB2.out.trans (hb3.mono HB2.out.size))
    clear hb3
    go_wp2_with fail
    go_ret
    exact RetB.mk HB3.out rfl
  have HG2 := Lib.hid (bigDl_any d2 h2 w1 _ (HDV.out _ HB2.out) HSM2.out)
  go_wp2_with (first | (apply wpList_loadRowW 35 35; exact rfl; exact rfl; exact rfl; assumption; exact undDl; exact rfl; exact infDl) | fail)
  refine HG2.out.mono ?_
  rintro e w2 ⟨⟨b, rfl⟩, hb3⟩
  have HB3 := Lib.hid (HB2.out.trans (hb3.mono HB2.out.size))
  have g2 := (hb3.block w.heap.size (Array.getElem?_eq_some_iff.1 g1).1).trans g1
  have k2 := (hb3.block (w.heap.size + 1) (Array.getElem?_eq_some_iff.1 k1).1).trans k1
  clear hb3 g1 k1 HG2 HB2
  cases b
  case true =>
    have HAL := Lib.hid (alive13_any w2 (HE.out.below (Nat.le_refl _) HB3.out))
    go_wp2_with fail
    refine HAL.out.mono ?_
    rintro e w4 ⟨rfl, hb4⟩
    have HB4 := Lib.hid (HB3.out.trans (hb4.mono HB3.out.size))
    clear hb4
    go_wp2_with fail
    go_ret
    exact RetB.mk HB4.out rfl
  go_upto_region 3 with fail
  have HSO := Lib.hid (fun (V9 : World) (hV : Below w2.drew.heap.size w2.drew V9) => (show (fun V => V.rangeAt (w.heap.size) 0 [.int .i64 h.se, .int .i32 h.xi, .int .i64 h.zx, .int .i64 h.ti, .int .i32 h.t.n.ty, .string h.t.n.path, slV h.t.d, slV h.t.a, .int .i64 h.t.n.ow, .int .i32 h.t.n.ve, .int .i32 h.t.n.cr, .bool h.t.n.qh, .int .i64 h.t.n.qc, .int .i64 h.t.n.qb, .int .i64 h.t.n.si, .int .i32 h.t.n.st, slV h.t.i, slV h.t.p, .int .i32 h.t.n.co, slV h.t.s] ∧ V.rangeAt (w.heap.size + 1) 0 [.int .i64 h2.se, .int .i32 h2.xi, .int .i64 h2.zx, .int .i64 h2.ti, .int .i32 h2.t.n.ty, .string h2.t.n.path, slV h2.t.d, slV h2.t.a, .int .i64 h2.t.n.ow, .int .i32 h2.t.n.ve, .int .i32 h2.t.n.cr, .bool h2.t.n.qh, .int .i64 h2.t.n.qc, .int .i64 h2.t.n.qb, .int .i64 h2.t.n.si, .int .i32 h2.t.n.st, slV h2.t.i, slV h2.t.p, .int .i32 h2.t.n.co, slV h2.t.s]) V9 from ⟨rangeAt_heapC (pre := []) (mid := [.int .i64 h.se, .int .i32 h.xi, .int .i64 h.zx, .int .i64 h.ti, .int .i32 h.t.n.ty, .string h.t.n.path, slV h.t.d, slV h.t.a, .int .i64 h.t.n.ow, .int .i32 h.t.n.ve, .int .i32 h.t.n.cr, .bool h.t.n.qh, .int .i64 h.t.n.qc, .int .i64 h.t.n.qb, .int .i64 h.t.n.si, .int .i32 h.t.n.st, slV h.t.i, slV h.t.p, .int .i32 h.t.n.co, slV h.t.s]) (post := []) ((hV.block _ (by have h8 := (Array.getElem?_eq_some_iff.1 g2).1; have h9 := (drew_self w2).size; omega)).trans (((drew_self w2).block _ (Array.getElem?_eq_some_iff.1 g2).1).trans g2)) rfl rfl, rangeAt_heapC (pre := []) (mid := [.int .i64 h2.se, .int .i32 h2.xi, .int .i64 h2.zx, .int .i64 h2.ti, .int .i32 h2.t.n.ty, .string h2.t.n.path, slV h2.t.d, slV h2.t.a, .int .i64 h2.t.n.ow, .int .i32 h2.t.n.ve, .int .i32 h2.t.n.cr, .bool h2.t.n.qh, .int .i64 h2.t.n.qc, .int .i64 h2.t.n.qb, .int .i64 h2.t.n.si, .int .i32 h2.t.n.st, slV h2.t.i, slV h2.t.p, .int .i32 h2.t.n.co, slV h2.t.s]) (post := []) ((hV.block _ (by have h8 := (Array.getElem?_eq_some_iff.1 k2).1; have h9 := (drew_self w2).size; omega)).trans (((drew_self w2).block _ (Array.getElem?_eq_some_iff.1 k2).1).trans k2)) rfl rfl⟩))
  have HB0 := Lib.hid (HB3.out.trans ((drew_self w2).mono HB3.out.size))
  refine wp_region_M (S := fun V => V.rangeAt (w.heap.size) 0 [.int .i64 h.se, .int .i32 h.xi, .int .i64 h.zx, .int .i64 h.ti, .int .i32 h.t.n.ty, .string h.t.n.path, slV h.t.d, slV h.t.a, .int .i64 h.t.n.ow, .int .i32 h.t.n.ve, .int .i32 h.t.n.cr, .bool h.t.n.qh, .int .i64 h.t.n.qc, .int .i64 h.t.n.qb, .int .i64 h.t.n.si, .int .i32 h.t.n.st, slV h.t.i, slV h.t.p, .int .i32 h.t.n.co, slV h.t.s] ∧ V.rangeAt (w.heap.size + 1) 0 [.int .i64 h2.se, .int .i32 h2.xi, .int .i64 h2.zx, .int .i64 h2.ti, .int .i32 h2.t.n.ty, .string h2.t.n.path, slV h2.t.d, slV h2.t.a, .int .i64 h2.t.n.ow, .int .i32 h2.t.n.ve, .int .i32 h2.t.n.cr, .bool h2.t.n.qh, .int .i64 h2.t.n.qc, .int .i64 h2.t.n.qb, .int .i64 h2.t.n.si, .int .i32 h2.t.n.st, slV h2.t.i, slV h2.t.p, .int .i32 h2.t.n.co, slV h2.t.s]) 21 (by kernel_rfl) (HSO.out _ (Below.refl _ _)) (fun hHeld => ?_)
  clear g2 k2
  generalize w2.drew = W0 at *
  refine wpAnyM_take (i := 0) (v := .agg #[.int .i64 h.se, .int .i32 h.xi, .int .i64 h.zx, .int .i64 h.ti, .int .i32 h.t.n.ty, .string h.t.n.path, slV h.t.d, slV h.t.a, .int .i64 h.t.n.ow, .int .i32 h.t.n.ve, .int .i32 h.t.n.cr, .bool h.t.n.qh, .int .i64 h.t.n.qc, .int .i64 h.t.n.qb, .int .i64 h.t.n.si, .int .i32 h.t.n.st, slV h.t.i, slV h.t.p, .int .i32 h.t.n.co, slV h.t.s]) rfl (by kernel_rfl) (fun _ _ _ h => h) (yieldsIf_load_mid (by rfl) 35 _ rfl (w.heap.size) 0 rfl [.int .i64 h.se, .int .i32 h.xi, .int .i64 h.zx, .int .i64 h.ti, .int .i32 h.t.n.ty, .string h.t.n.path, slV h.t.d, slV h.t.a, .int .i64 h.t.n.ow, .int .i32 h.t.n.ve, .int .i32 h.t.n.cr, .bool h.t.n.qh, .int .i64 h.t.n.qc, .int .i64 h.t.n.qb, .int .i64 h.t.n.si, .int .i32 h.t.n.st, slV h.t.i, slV h.t.p, .int .i32 h.t.n.co, slV h.t.s] _ (fun _ h => h.1) undDl rfl infDl) (by assumption) ?_
  (try simp only [List.getElem_toArray, List.getElem_cons_succ, List.getElem_cons_zero, Act.put, List.setIfInBounds_toArray, List.set_cons_zero, List.set_cons_succ])
  refine wpAnyM_take (i := 2) (v := .agg #[.int .i64 h2.se, .int .i32 h2.xi, .int .i64 h2.zx, .int .i64 h2.ti, .int .i32 h2.t.n.ty, .string h2.t.n.path, slV h2.t.d, slV h2.t.a, .int .i64 h2.t.n.ow, .int .i32 h2.t.n.ve, .int .i32 h2.t.n.cr, .bool h2.t.n.qh, .int .i64 h2.t.n.qc, .int .i64 h2.t.n.qb, .int .i64 h2.t.n.si, .int .i32 h2.t.n.st, slV h2.t.i, slV h2.t.p, .int .i32 h2.t.n.co, slV h2.t.s]) rfl (by kernel_rfl) (fun _ _ _ h => h) (yieldsIf_load_mid (by rfl) 35 _ rfl (w.heap.size + 1) 0 rfl [.int .i64 h2.se, .int .i32 h2.xi, .int .i64 h2.zx, .int .i64 h2.ti, .int .i32 h2.t.n.ty, .string h2.t.n.path, slV h2.t.d, slV h2.t.a, .int .i64 h2.t.n.ow, .int .i32 h2.t.n.ve, .int .i32 h2.t.n.cr, .bool h2.t.n.qh, .int .i64 h2.t.n.qc, .int .i64 h2.t.n.qb, .int .i64 h2.t.n.si, .int .i32 h2.t.n.st, slV h2.t.i, slV h2.t.p, .int .i32 h2.t.n.co, slV h2.t.s] _ (fun _ h => h.2) undDl rfl infDl) (by assumption) ?_
  (try simp only [List.getElem_toArray, List.getElem_cons_succ, List.getElem_cons_zero, Act.put, List.setIfInBounds_toArray, List.set_cons_zero, List.set_cons_succ])
  refine wpAnyM_take (i := 5) (v := .agg #[.int .i64 h.se, .int .i32 h.xi, .int .i64 h.zx, .int .i64 h.ti, .int .i32 h.t.n.ty, .string h.t.n.path, slV h.t.d, slV h.t.a, .int .i64 h.t.n.ow, .int .i32 h.t.n.ve, .int .i32 h.t.n.cr, .bool h.t.n.qh, .int .i64 h.t.n.qc, .int .i64 h.t.n.qb, .int .i64 h.t.n.si, .int .i32 h.t.n.st, slV h.t.i, slV h.t.p, .int .i32 h.t.n.co, slV h.t.s]) rfl (by kernel_rfl) (fun _ _ _ h => h) (yieldsIf_load_mid (by rfl) 35 _ rfl (w.heap.size) 0 rfl [.int .i64 h.se, .int .i32 h.xi, .int .i64 h.zx, .int .i64 h.ti, .int .i32 h.t.n.ty, .string h.t.n.path, slV h.t.d, slV h.t.a, .int .i64 h.t.n.ow, .int .i32 h.t.n.ve, .int .i32 h.t.n.cr, .bool h.t.n.qh, .int .i64 h.t.n.qc, .int .i64 h.t.n.qb, .int .i64 h.t.n.si, .int .i32 h.t.n.st, slV h.t.i, slV h.t.p, .int .i32 h.t.n.co, slV h.t.s] _ (fun _ h => h.1) undDl rfl infDl) (by assumption) ?_
  (try simp only [List.getElem_toArray, List.getElem_cons_succ, List.getElem_cons_zero, Act.put, List.setIfInBounds_toArray, List.set_cons_zero, List.set_cons_succ])
  refine wpAnyM_take (i := 6) (v := .agg #[.int .i64 h2.se, .int .i32 h2.xi, .int .i64 h2.zx, .int .i64 h2.ti, .int .i32 h2.t.n.ty, .string h2.t.n.path, slV h2.t.d, slV h2.t.a, .int .i64 h2.t.n.ow, .int .i32 h2.t.n.ve, .int .i32 h2.t.n.cr, .bool h2.t.n.qh, .int .i64 h2.t.n.qc, .int .i64 h2.t.n.qb, .int .i64 h2.t.n.si, .int .i32 h2.t.n.st, slV h2.t.i, slV h2.t.p, .int .i32 h2.t.n.co, slV h2.t.s]) rfl (by kernel_rfl) (fun _ _ _ h => h) (yieldsIf_load_mid (by rfl) 35 _ rfl (w.heap.size + 1) 0 rfl [.int .i64 h2.se, .int .i32 h2.xi, .int .i64 h2.zx, .int .i64 h2.ti, .int .i32 h2.t.n.ty, .string h2.t.n.path, slV h2.t.d, slV h2.t.a, .int .i64 h2.t.n.ow, .int .i32 h2.t.n.ve, .int .i32 h2.t.n.cr, .bool h2.t.n.qh, .int .i64 h2.t.n.qc, .int .i64 h2.t.n.qb, .int .i64 h2.t.n.si, .int .i32 h2.t.n.st, slV h2.t.i, slV h2.t.p, .int .i32 h2.t.n.co, slV h2.t.s] _ (fun _ h => h.2) undDl rfl infDl) (by assumption) ?_
  (try simp only [List.getElem_toArray, List.getElem_cons_succ, List.getElem_cons_zero, Act.put, List.setIfInBounds_toArray, List.set_cons_zero, List.set_cons_succ])
  refine wpAnyM_one (i := 1) rfl (by kernel_rfl) (fun K hK => ?_)
  go_simp
  refine (refCloneDl_any h d W0 _ (HDW.out _ HB0.out) HSM.out).mono ?_
  rintro e W1 ⟨⟨a1, rfl, hq⟩, hb⟩
  dsimp only
  have HB1 := Lib.hid (HB0.out.trans (hb.mono HB0.out.size))
  replace HSO := Lib.hid (fun (V9 : World) (hV : Below W1.heap.size W1 V9) => HSO.out V9 (hb.trans (hV.mono hb.size)))
  have HC1 := Lib.hid (fun (V9 : World) (hV : Below W1.heap.size W1 V9) => (show DlAt V9 (fun _ => True) a1 d from ⟨hq.1, TxAt.tru hq.2 hV⟩))
  clear hq
  replace hHeld := HSO.out _ (Below.refl _ _)
  refine hK.out _ _ hHeld ?_
  clear hK K hb
  (try simp only [List.getElem_toArray, List.getElem_cons_succ, List.getElem_cons_zero, Act.put, List.setIfInBounds_toArray, List.set_cons_zero, List.set_cons_succ])
  refine wpAnyM_one (i := 3) rfl (by kernel_rfl) (fun K hK => ?_)
  go_simp
  refine (refCloneDl_any h2 d2 W1 _ (HDV.out _ HB1.out) HSM2.out).mono ?_
  rintro e W2 ⟨⟨a2, rfl, hq⟩, hb⟩
  dsimp only
  have HB2 := Lib.hid (HB1.out.trans (hb.mono HB1.out.size))
  replace HSO := Lib.hid (fun (V9 : World) (hV : Below W2.heap.size W2 V9) => HSO.out V9 (hb.trans (hV.mono hb.size)))
  have HC2 := Lib.hid (fun (V9 : World) (hV : Below W2.heap.size W2 V9) => (show DlAt V9 (fun _ => True) a2 d2 from ⟨hq.1, TxAt.tru hq.2 hV⟩))
  clear hq
  replace HC1 := Lib.hid (fun (V9 : World) (hV : Below W2.heap.size W2 V9) => HC1.out V9 (hb.trans (hV.mono hb.size)))
  replace hHeld := HSO.out _ (Below.refl _ _)
  refine hK.out _ _ hHeld ?_
  clear hK K hb
  (try simp only [List.getElem_toArray, List.getElem_cons_succ, List.getElem_cons_zero, Act.put, List.setIfInBounds_toArray, List.set_cons_zero, List.set_cons_succ])
  refine wpAnyM_one (i := 4) rfl (by kernel_rfl) (fun K hK => ?_)
  go_simp
  refine (samePD_any d d2 a1 a2 W2 _ _ (HC1.out _ (Below.refl _ _)) (HC2.out _ (Below.refl _ _)) HSM.out HSM2.out).mono ?_
  rintro e W3 ⟨rfl, hb⟩
  dsimp only
  have HB3 := Lib.hid (HB2.out.trans (hb.mono HB2.out.size))
  replace HSO := Lib.hid (fun (V9 : World) (hV : Below W3.heap.size W3 V9) => HSO.out V9 (hb.trans (hV.mono hb.size)))
  clear HC1 HC2
  replace hHeld := HSO.out _ (Below.refl _ _)
  refine hK.out _ _ hHeld ?_
  clear hK K hb
  (try simp only [List.getElem_toArray, List.getElem_cons_succ, List.getElem_cons_zero, Act.put, List.setIfInBounds_toArray, List.set_cons_zero, List.set_cons_succ])
  refine wpAnyM_one (i := 7) rfl (by kernel_rfl) (fun K hK => ?_)
  go_simp
  refine (sameDlG d d2 h h2 W3 _ _ (HDW.out _ HB3.out) (HDV.out _ HB3.out) HSM.out HSM2.out).mono ?_
  rintro e W4 ⟨rfl, hb⟩
  dsimp only
  have HB4 := Lib.hid (HB3.out.trans (hb.mono HB3.out.size))
  replace HSO := Lib.hid (fun (V9 : World) (hV : Below W4.heap.size W4 V9) => HSO.out V9 (hb.trans (hV.mono hb.size)))
  generalize sameD d d2 = sb at *
  replace hHeld := HSO.out _ (Below.refl _ _)
  refine hK.out _ _ hHeld ?_
  clear hK K hb
  (try simp only [List.getElem_toArray, List.getElem_cons_succ, List.getElem_cons_zero, Act.put, List.setIfInBounds_toArray, List.set_cons_zero, List.set_cons_succ])
  refine wpAnyM_take (i := 8) (v := .bool true) rfl (by kernel_rfl) (fun _ _ _ h => h) (Or.inl ⟨by rfl, by intro w hSw; clear hSw; go_simp⟩) (by assumption) ?_
  (try simp only [List.getElem_toArray, List.getElem_cons_succ, List.getElem_cons_zero, Act.put, List.setIfInBounds_toArray, List.set_cons_zero, List.set_cons_succ])
  refine wpAnyM_take (i := 9) (v := .bool true) rfl (by kernel_rfl) (fun _ _ _ h => h) (Or.inl ⟨by rfl, by intro w hSw; clear hSw; go_simp⟩) (by assumption) ?_
  (try simp only [List.getElem_toArray, List.getElem_cons_succ, List.getElem_cons_zero, Act.put, List.setIfInBounds_toArray, List.set_cons_zero, List.set_cons_succ])
  refine wpAnyM_take (i := 10) (v := .agg #[.int .i64 h.se, .int .i32 h.xi, .int .i64 h.zx, .int .i64 h.ti, .int .i32 h.t.n.ty, .string h.t.n.path, slV h.t.d, slV h.t.a, .int .i64 h.t.n.ow, .int .i32 h.t.n.ve, .int .i32 h.t.n.cr, .bool h.t.n.qh, .int .i64 h.t.n.qc, .int .i64 h.t.n.qb, .int .i64 h.t.n.si, .int .i32 h.t.n.st, slV h.t.i, slV h.t.p, .int .i32 h.t.n.co, slV h.t.s]) rfl (by kernel_rfl) (fun _ _ _ h => h) (yieldsIf_load_mid (by rfl) 35 _ rfl (w.heap.size) 0 rfl [.int .i64 h.se, .int .i32 h.xi, .int .i64 h.zx, .int .i64 h.ti, .int .i32 h.t.n.ty, .string h.t.n.path, slV h.t.d, slV h.t.a, .int .i64 h.t.n.ow, .int .i32 h.t.n.ve, .int .i32 h.t.n.cr, .bool h.t.n.qh, .int .i64 h.t.n.qc, .int .i64 h.t.n.qb, .int .i64 h.t.n.si, .int .i32 h.t.n.st, slV h.t.i, slV h.t.p, .int .i32 h.t.n.co, slV h.t.s] _ (fun _ h => h.1) undDl rfl infDl) (by assumption) ?_
  (try simp only [List.getElem_toArray, List.getElem_cons_succ, List.getElem_cons_zero, Act.put, List.setIfInBounds_toArray, List.set_cons_zero, List.set_cons_succ])
  refine wpAnyM_take (i := 12) (v := .agg #[.int .i64 h.se, .int .i32 h.xi, .int .i64 h.zx, .int .i64 h.ti, .int .i32 h.t.n.ty, .string h.t.n.path, slV h.t.d, slV h.t.a, .int .i64 h.t.n.ow, .int .i32 h.t.n.ve, .int .i32 h.t.n.cr, .bool h.t.n.qh, .int .i64 h.t.n.qc, .int .i64 h.t.n.qb, .int .i64 h.t.n.si, .int .i32 h.t.n.st, slV h.t.i, slV h.t.p, .int .i32 h.t.n.co, slV h.t.s]) rfl (by kernel_rfl) (fun _ _ _ h => h) (yieldsIf_load_mid (by rfl) 35 _ rfl (w.heap.size) 0 rfl [.int .i64 h.se, .int .i32 h.xi, .int .i64 h.zx, .int .i64 h.ti, .int .i32 h.t.n.ty, .string h.t.n.path, slV h.t.d, slV h.t.a, .int .i64 h.t.n.ow, .int .i32 h.t.n.ve, .int .i32 h.t.n.cr, .bool h.t.n.qh, .int .i64 h.t.n.qc, .int .i64 h.t.n.qb, .int .i64 h.t.n.si, .int .i32 h.t.n.st, slV h.t.i, slV h.t.p, .int .i32 h.t.n.co, slV h.t.s] _ (fun _ h => h.1) undDl rfl infDl) (by assumption) ?_
  (try simp only [List.getElem_toArray, List.getElem_cons_succ, List.getElem_cons_zero, Act.put, List.setIfInBounds_toArray, List.set_cons_zero, List.set_cons_succ])
  refine wpAnyM_one (i := 11) rfl (by kernel_rfl) (fun K hK => ?_)
  go_simp
  refine (cloneDl_any h d W4 _ (HDW.out _ HB4.out) HSM.out).mono ?_
  rintro e W5 ⟨⟨a3, rfl, hq⟩, hb⟩
  dsimp only
  have HB5 := Lib.hid (HB4.out.trans (hb.mono HB4.out.size))
  replace HSO := Lib.hid (fun (V9 : World) (hV : Below W5.heap.size W5 V9) => HSO.out V9 (hb.trans (hV.mono hb.size)))
  have HC3 := Lib.hid (fun (V9 : World) (hV : Below W5.heap.size W5 V9) => (show DlAt V9 (fun _ => True) a3 d from ⟨hq.1, TxAt.tru hq.2 hV⟩))
  clear hq
  replace hHeld := HSO.out _ (Below.refl _ _)
  refine hK.out _ _ hHeld ?_
  clear hK K hb
  (try simp only [List.getElem_toArray, List.getElem_cons_succ, List.getElem_cons_zero, Act.put, List.setIfInBounds_toArray, List.set_cons_zero, List.set_cons_succ])
  refine wpAnyM_one (i := 13) rfl (by kernel_rfl) (fun K hK => ?_)
  go_simp
  refine (sameDlG d d a3 h W5 _ _ (HC3.out _ (Below.refl _ _)) (HDW.out _ HB5.out) HSM.out HSM.out).mono ?_
  rintro e W6 ⟨rfl, hb⟩
  dsimp only
  have HB6 := Lib.hid (HB5.out.trans (hb.mono HB5.out.size))
  replace HSO := Lib.hid (fun (V9 : World) (hV : Below W6.heap.size W6 V9) => HSO.out V9 (hb.trans (hV.mono hb.size)))
  clear HC3
  rw [show sameD d d = true from sameD_eq rfl]
  replace hHeld := HSO.out _ (Below.refl _ _)
  refine hK.out _ _ hHeld ?_
  clear hK K hb
  (try simp only [List.getElem_toArray, List.getElem_cons_succ, List.getElem_cons_zero, Act.put, List.setIfInBounds_toArray, List.set_cons_zero, List.set_cons_succ])
  refine wpAnyM_take (i := 14) (v := .bool true) rfl (by kernel_rfl) (fun _ _ _ h => h) (Or.inl ⟨by rfl, by intro w hSw; clear hSw; go_simp⟩) (by assumption) ?_
  (try simp only [List.getElem_toArray, List.getElem_cons_succ, List.getElem_cons_zero, Act.put, List.setIfInBounds_toArray, List.set_cons_zero, List.set_cons_succ])
  refine wpAnyM_take (i := 15) (v := .bool true) rfl (by kernel_rfl) (fun _ _ _ h => h) (Or.inl ⟨by rfl, by intro w hSw; clear hSw; go_simp⟩) (by assumption) ?_
  (try simp only [List.getElem_toArray, List.getElem_cons_succ, List.getElem_cons_zero, Act.put, List.setIfInBounds_toArray, List.set_cons_zero, List.set_cons_succ])
  refine wpAnyM_take (i := 16) (v := .agg #[.int .i64 h.se, .int .i32 h.xi, .int .i64 h.zx, .int .i64 h.ti, .int .i32 h.t.n.ty, .string h.t.n.path, slV h.t.d, slV h.t.a, .int .i64 h.t.n.ow, .int .i32 h.t.n.ve, .int .i32 h.t.n.cr, .bool h.t.n.qh, .int .i64 h.t.n.qc, .int .i64 h.t.n.qb, .int .i64 h.t.n.si, .int .i32 h.t.n.st, slV h.t.i, slV h.t.p, .int .i32 h.t.n.co, slV h.t.s]) rfl (by kernel_rfl) (fun _ _ _ h => h) (yieldsIf_load_mid (by rfl) 35 _ rfl (w.heap.size) 0 rfl [.int .i64 h.se, .int .i32 h.xi, .int .i64 h.zx, .int .i64 h.ti, .int .i32 h.t.n.ty, .string h.t.n.path, slV h.t.d, slV h.t.a, .int .i64 h.t.n.ow, .int .i32 h.t.n.ve, .int .i32 h.t.n.cr, .bool h.t.n.qh, .int .i64 h.t.n.qc, .int .i64 h.t.n.qb, .int .i64 h.t.n.si, .int .i32 h.t.n.st, slV h.t.i, slV h.t.p, .int .i32 h.t.n.co, slV h.t.s] _ (fun _ h => h.1) undDl rfl infDl) (by assumption) ?_
  (try simp only [List.getElem_toArray, List.getElem_cons_succ, List.getElem_cons_zero, Act.put, List.setIfInBounds_toArray, List.set_cons_zero, List.set_cons_succ])
  refine wpAnyM_take (i := 17) (v := .agg #[.int .i64 h.se, .int .i32 h.xi, .int .i64 h.zx, .int .i64 h.ti, .int .i32 h.t.n.ty, .string h.t.n.path, slV h.t.d, slV h.t.a, .int .i64 h.t.n.ow, .int .i32 h.t.n.ve, .int .i32 h.t.n.cr, .bool h.t.n.qh, .int .i64 h.t.n.qc, .int .i64 h.t.n.qb, .int .i64 h.t.n.si, .int .i32 h.t.n.st, slV h.t.i, slV h.t.p, .int .i32 h.t.n.co, slV h.t.s]) rfl (by kernel_rfl) (fun _ _ _ h => h) (yieldsIf_load_mid (by rfl) 35 _ rfl (w.heap.size) 0 rfl [.int .i64 h.se, .int .i32 h.xi, .int .i64 h.zx, .int .i64 h.ti, .int .i32 h.t.n.ty, .string h.t.n.path, slV h.t.d, slV h.t.a, .int .i64 h.t.n.ow, .int .i32 h.t.n.ve, .int .i32 h.t.n.cr, .bool h.t.n.qh, .int .i64 h.t.n.qc, .int .i64 h.t.n.qb, .int .i64 h.t.n.si, .int .i32 h.t.n.st, slV h.t.i, slV h.t.p, .int .i32 h.t.n.co, slV h.t.s] _ (fun _ h => h.1) undDl rfl infDl) (by assumption) ?_
  (try simp only [List.getElem_toArray, List.getElem_cons_succ, List.getElem_cons_zero, Act.put, List.setIfInBounds_toArray, List.set_cons_zero, List.set_cons_succ])
  refine wpAnyM_one (i := 18) rfl (by kernel_rfl) (fun K hK => ?_)
  go_simp
  refine (cloneDl_any h d W6 _ (HDW.out _ HB6.out) HSM.out).mono ?_
  rintro e W7 ⟨⟨a4, rfl, hq⟩, hb⟩
  dsimp only
  have HB7 := Lib.hid (HB6.out.trans (hb.mono HB6.out.size))
  replace HSO := Lib.hid (fun (V9 : World) (hV : Below W7.heap.size W7 V9) => HSO.out V9 (hb.trans (hV.mono hb.size)))
  have HC4 := Lib.hid (fun (V9 : World) (hV : Below W7.heap.size W7 V9) => (show DlAt V9 (fun _ => True) a4 d from ⟨hq.1, TxAt.tru hq.2 hV⟩))
  clear hq
  replace hHeld := HSO.out _ (Below.refl _ _)
  refine hK.out _ _ hHeld ?_
  clear hK K hb
  (try simp only [List.getElem_toArray, List.getElem_cons_succ, List.getElem_cons_zero, Act.put, List.setIfInBounds_toArray, List.set_cons_zero, List.set_cons_succ])
  refine wpAnyM_one (i := 19) rfl (by kernel_rfl) (fun K hK => ?_)
  go_simp
  refine (samePD_any d d h a4 W7 _ _ (HDW.out _ HB7.out) (HC4.out _ (Below.refl _ _)) HSM.out HSM.out).mono ?_
  rintro e W8 ⟨rfl, hb⟩
  dsimp only
  have HB8 := Lib.hid (HB7.out.trans (hb.mono HB7.out.size))
  replace HSO := Lib.hid (fun (V9 : World) (hV : Below W8.heap.size W8 V9) => HSO.out V9 (hb.trans (hV.mono hb.size)))
  clear HC4
  rw [show sameD d d = true from sameD_eq rfl]
  replace hHeld := HSO.out _ (Below.refl _ _)
  refine hK.out _ _ hHeld ?_
  clear hK K hb
  (try simp only [List.getElem_toArray, List.getElem_cons_succ, List.getElem_cons_zero, Act.put, List.setIfInBounds_toArray, List.set_cons_zero, List.set_cons_succ])
  refine wpAnyM_take (i := 20) (v := .bool true) rfl (by kernel_rfl) (fun _ _ _ h => h) (Or.inl ⟨by rfl, by intro w hSw; clear hSw; go_simp⟩) (by assumption) ?_
  (try simp only [List.getElem_toArray, List.getElem_cons_succ, List.getElem_cons_zero, Act.put, List.setIfInBounds_toArray, List.set_cons_zero, List.set_cons_succ])
  refine wpAnyM_tail (n := 21) (by kernel_rfl) ?_
  simp only [List.drop_succ_cons, List.drop_zero]
  go_wp2_with fail
  go_ret
  exact RetB.mk HB8.out rfl
end Go.Proofs.YthpjneobmmpbnaaGreatDoor

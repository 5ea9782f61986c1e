/- The walk of DeltaOwn. Condition: a delta's lists have at most 2^20. -/
import Derived.Test.YthpjneobmmpbnaaGreatDoorGLwB
import Derived.Test.YthpjneobmmpbnaaGreatDoorGLwT
import Derived.Test.YthpjneobmmpbnaaGreatDoorGSpD
namespace Go.Proofs.YthpjneobmmpbnaaGreatDoor
open Go.RowKit Go.MapKept Go.Maps
theorem field_dl (h : DlH) (w : World) : (Instr.field 35 (dlV h) 4).run Tryz.prog w = .ok (txV h.t) w := by kernel_rfl
/-- a list of copies as the parts of one transaction -/
def lsH (A : Option Addr) (n c : Nat) : TxH := ⟨⟨0, ⟨#[]⟩, 0, 0, 0, false, 0, 0, 0, 0, 0⟩, (none, 0, 0), (none, 0, 0), (none, 0, 0), (none, 0, 0), (A, n, c)⟩
theorem LsR.sh {B c : Nat} {ts : List TxT} {A : Option Addr} {w' : World} (H : LsR UfR B ts A c w') (hok : ∀ t ∈ ts, TxOk 1048576 t) (hn : ts.length ≤ 1048576) : Sh w' B (lsH A ts.length c) (.mk (blkF 0) ts) := by
  obtain ⟨Hs, h1, h2, h3⟩ := H.r
  have ht : TxAt w' (UfR w' B) (lsH A ts.length c) (.mk (blkF 0) ts) := by
    refine TrAt.of_subs (L := Hs) ⟨rfl, SlR.nil_, SlR.nil_, SlR.nil_, SlR.nil_⟩ rfl ?_ (fun j hj => ?_)
    · exact own_slrU h1 (fun _ => rfl) h2 (Nat.le_refl _)
    · have hj : j < ts.length := hj
      exact (h3 j hj).more (fun b _ h => h.1)
  refine Sh.of ht (fun _ h => h) (.mk _ _ ?_ (fun j hj => ?_))
  · obtain ⟨s0, s1, s2, s3, s4, s5, s6, s7⟩ := smV (ty := 0) (ow := 0) (ve := 0) (cr := 0) (qc := 0) (qb := 0) (si := 0) (st := 0) (co := 0) (path := ⟨#[]⟩) (qh := false) (data := []) (acl := []) (ids := []) (paths := []) z32 (Nat.zero_le _) z64 z32 z32 z64 z64 z64 z32 z32 (Nat.zero_le _) okA.nil okI.nil okS.nil
    exact ⟨s0, s1, s2, s3, s4, s5, hn, s7⟩
  · exact hok _ (by rw [getElem!_pos ts j hj]; exact List.getElem_mem hj)
/-- a place of a list of texts of one's own, behind writes -/
theorem str_place {w w' : World} {B n c : Nat} {A : Option Addr} {l : List ByteArray} (hr : w.ownsRow B 9 1 (.slice A n c) n (l.flatMap encStr)) (hl : l.length = n) (hm : Mild B w w') {j : Nat} (hj : j < n) : ∃ b off, A = some ⟨b, off, none⟩ ∧ B ≤ b ∧ (∃ s, w'.cell? ⟨b, off + j, none⟩ = some (.string s)) ∧ w'.frozen? ⟨b, off + j, none⟩ = false := by
  obtain ⟨b, off, e, hb, hc⟩ := (own_slrN hr (fun _ => rfl) hl).2.2 (show 0 < n by omega)
  have h1 := hc j hj 0 _ rfl
  rw [Nat.mul_one, Nat.add_zero] at h1
  obtain ⟨v, h2, h3⟩ := hm.k _ _ h1
  obtain ⟨s, rfl⟩ := h3.str
  exact ⟨b, off, e, hb.1, ⟨s, h2⟩, hm.f b (World.block_lt_of_cell? w _ h1) hb.uf.2 _⟩
set_option linter.unusedSimpArgs false in
set_option maxRecDepth 100000 in
set_option maxHeartbeats 20000000 in
theorem deltaOwn_any (h : DlH) (d : DlT) (w : World) (R : Nat → Prop) (hd : DlAt w R h d) (hE : Env w) (hsm : DlSm 1048576 d) : Calls Tryz.prog 9 #[dlV h] w (RetB w true) := by
  have hb1 : Below w.heap.size w (w.alloc (.cells #[.int .i64 h.se, .int .i32 h.xi, .int .i64 h.zx, .int .i64 h.ti, .int .i32 h.t.n.ty, .string h.t.n.path, slV h.t.d, slV h.t.a, .int .i64 h.t.n.ow, .int .i32 h.t.n.ve, .int .i32 h.t.n.cr, .bool h.t.n.qh, .int .i64 h.t.n.qc, .int .i64 h.t.n.qb, .int .i64 h.t.n.si, .int .i32 h.t.n.st, slV h.t.i, slV h.t.p, .int .i32 h.t.n.co, slV h.t.s] 35)) := (Below.refl _ w).alloc (Nat.le_refl _) _
  have HB1 := Lib.hid hb1
  have HE := Lib.hid hE
  have g0 := heap_s0 w (.cells #[.int .i64 h.se, .int .i32 h.xi, .int .i64 h.zx, .int .i64 h.ti, .int .i32 h.t.n.ty, .string h.t.n.path, slV h.t.d, slV h.t.a, .int .i64 h.t.n.ow, .int .i32 h.t.n.ve, .int .i32 h.t.n.cr, .bool h.t.n.qh, .int .i64 h.t.n.qc, .int .i64 h.t.n.qb, .int .i64 h.t.n.si, .int .i32 h.t.n.st, slV h.t.i, slV h.t.p, .int .i32 h.t.n.co, slV h.t.s] 35)
  have HZ := Lib.hid (sz1 w (.cells #[.int .i64 h.se, .int .i32 h.xi, .int .i64 h.zx, .int .i64 h.ti, .int .i32 h.t.n.ty, .string h.t.n.path, slV h.t.d, slV h.t.a, .int .i64 h.t.n.ow, .int .i32 h.t.n.ve, .int .i32 h.t.n.cr, .bool h.t.n.qh, .int .i64 h.t.n.qc, .int .i64 h.t.n.qb, .int .i64 h.t.n.si, .int .i32 h.t.n.st, slV h.t.i, slV h.t.p, .int .i32 h.t.n.co, slV h.t.s] 35))
  have HSM := Lib.hid hsm
  have HDW := Lib.hid (fun (V : World) (hV : Below w.heap.size w V) => (show DlAt V (fun _ => True) h d from ⟨hd.1, TxAt.tru hd.2 hV⟩))
  have HAL := Lib.hid (alive13_any (w.alloc (.cells #[.int .i64 h.se, .int .i32 h.xi, .int .i64 h.zx, .int .i64 h.ti, .int .i32 h.t.n.ty, .string h.t.n.path, slV h.t.d, slV h.t.a, .int .i64 h.t.n.ow, .int .i32 h.t.n.ve, .int .i32 h.t.n.cr, .bool h.t.n.qh, .int .i64 h.t.n.qc, .int .i64 h.t.n.qb, .int .i64 h.t.n.si, .int .i32 h.t.n.st, slV h.t.i, slV h.t.p, .int .i32 h.t.n.co, slV h.t.s] 35)) (hE.below (Nat.le_refl _) hb1))
  clear hb1 hd hE hsm
  go_enter Tryz.func9, Tryz.ntmps9
  go_upto_region 1 with fail
  change Code.wp _ _ _ _ (w.alloc (.cells #[.int .i64 h.se, .int .i32 h.xi, .int .i64 h.zx, .int .i64 h.ti, .int .i32 h.t.n.ty, .string h.t.n.path, slV h.t.d, slV h.t.a, .int .i64 h.t.n.ow, .int .i32 h.t.n.ve, .int .i32 h.t.n.cr, .bool h.t.n.qh, .int .i64 h.t.n.qc, .int .i64 h.t.n.qb, .int .i64 h.t.n.si, .int .i32 h.t.n.st, slV h.t.i, slV h.t.p, .int .i32 h.t.n.co, slV h.t.s] 35))
  generalize w.alloc (.cells #[.int .i64 h.se, .int .i32 h.xi, .int .i64 h.zx, .int .i64 h.ti, .int .i32 h.t.n.ty, .string h.t.n.path, slV h.t.d, slV h.t.a, .int .i64 h.t.n.ow, .int .i32 h.t.n.ve, .int .i32 h.t.n.cr, .bool h.t.n.qh, .int .i64 h.t.n.qc, .int .i64 h.t.n.qb, .int .i64 h.t.n.si, .int .i32 h.t.n.st, slV h.t.i, slV h.t.p, .int .i32 h.t.n.co, slV h.t.s] 35) = V at *
  go_wp2_with fail
  refine HAL.out.mono ?_
  rintro e w0 ⟨rfl, hb0⟩
  have HB0 := Lib.hid (HB1.out.trans (hb0.mono HB1.out.size))
  replace g0 := (hb0.block w.heap.size (by have := HZ.out; omega)).trans g0
  clear hb0 HB1 HAL
  have HG1 := Lib.hid (bigDl_any d h w0 _ (HDW.out _ HB0.out) HSM.out)
  go_wp2_with (first | (apply wpList_loadRow 35 35; exact rfl; exact rfl; exact rfl; assumption; exact undDl; exact rfl; exact infDl) | fail)
  refine HG1.out.mono ?_
  rintro e w1 ⟨⟨b, rfl⟩, hb⟩
  have HB1 := Lib.hid (HB0.out.trans (hb.mono HB0.out.size))
  have g1 := (hb.block _ (Array.getElem?_eq_some_iff.1 g0).1).trans g0
  clear hb g0 HB0 HG1
  cases b
  case true =>
    go_wp2_with fail
    go_ret
    exact RetB.mk HB1.out rfl
  have HCL := Lib.hid (refCloneDl_any h d w1 _ (HDW.out _ HB1.out) HSM.out)
  go_wp2_with (first | (apply wpList_loadRow 35 35; exact rfl; exact rfl; exact rfl; assumption; exact undDl; exact rfl; exact infDl) | fail)
  refine HCL.out.mono ?_
  rintro e w2 ⟨⟨ho, rfl, hdo⟩, hb⟩
  have hbb : Below w2.heap.size w2 (w2.alloc (.cells #[.int .i64 ho.se, .int .i32 ho.xi, .int .i64 ho.zx, .int .i64 ho.ti, .int .i32 ho.t.n.ty, .string ho.t.n.path, slV ho.t.d, slV ho.t.a, .int .i64 ho.t.n.ow, .int .i32 ho.t.n.ve, .int .i32 ho.t.n.cr, .bool ho.t.n.qh, .int .i64 ho.t.n.qc, .int .i64 ho.t.n.qb, .int .i64 ho.t.n.si, .int .i32 ho.t.n.st, slV ho.t.i, slV ho.t.p, .int .i32 ho.t.n.co, slV ho.t.s] 35)) := (Below.refl _ w2).alloc (Nat.le_refl _) _
  have HB3 := Lib.hid ((HB1.out.trans (hb.mono HB1.out.size)).trans (hbb.mono (HB1.out.trans (hb.mono HB1.out.size)).size))
  have g3 := (hbb.block _ (Nat.lt_of_lt_of_le (Array.getElem?_eq_some_iff.1 g1).1 hb.size)).trans ((hb.block _ (Array.getElem?_eq_some_iff.1 g1).1).trans g1)
  have y3 := heap_s0 w2 (.cells #[.int .i64 ho.se, .int .i32 ho.xi, .int .i64 ho.zx, .int .i64 ho.ti, .int .i32 ho.t.n.ty, .string ho.t.n.path, slV ho.t.d, slV ho.t.a, .int .i64 ho.t.n.ow, .int .i32 ho.t.n.ve, .int .i32 ho.t.n.cr, .bool ho.t.n.qh, .int .i64 ho.t.n.qc, .int .i64 ho.t.n.qb, .int .i64 ho.t.n.si, .int .i32 ho.t.n.st, slV ho.t.i, slV ho.t.p, .int .i32 ho.t.n.co, slV ho.t.s] 35)
  have HY := Lib.hid (show DlAt (w2.alloc (.cells #[.int .i64 ho.se, .int .i32 ho.xi, .int .i64 ho.zx, .int .i64 ho.ti, .int .i32 ho.t.n.ty, .string ho.t.n.path, slV ho.t.d, slV ho.t.a, .int .i64 ho.t.n.ow, .int .i32 ho.t.n.ve, .int .i32 ho.t.n.cr, .bool ho.t.n.qh, .int .i64 ho.t.n.qc, .int .i64 ho.t.n.qb, .int .i64 ho.t.n.si, .int .i32 ho.t.n.st, slV ho.t.i, slV ho.t.p, .int .i32 ho.t.n.co, slV ho.t.s] 35)) (fun _ => True) ho d from ⟨hdo.1, TxAt.tru hdo.2 hbb⟩)
  have HO := Lib.hid (fun (V : World) (hV : Below (w2.alloc (.cells #[.int .i64 ho.se, .int .i32 ho.xi, .int .i64 ho.zx, .int .i64 ho.ti, .int .i32 ho.t.n.ty, .string ho.t.n.path, slV ho.t.d, slV ho.t.a, .int .i64 ho.t.n.ow, .int .i32 ho.t.n.ve, .int .i32 ho.t.n.cr, .bool ho.t.n.qh, .int .i64 ho.t.n.qc, .int .i64 ho.t.n.qb, .int .i64 ho.t.n.si, .int .i32 ho.t.n.st, slV ho.t.i, slV ho.t.p, .int .i32 ho.t.n.co, slV ho.t.s] 35)).heap.size (w2.alloc (.cells #[.int .i64 ho.se, .int .i32 ho.xi, .int .i64 ho.zx, .int .i64 ho.ti, .int .i32 ho.t.n.ty, .string ho.t.n.path, slV ho.t.d, slV ho.t.a, .int .i64 ho.t.n.ow, .int .i32 ho.t.n.ve, .int .i32 ho.t.n.cr, .bool ho.t.n.qh, .int .i64 ho.t.n.qc, .int .i64 ho.t.n.qb, .int .i64 ho.t.n.si, .int .i32 ho.t.n.st, slV ho.t.i, slV ho.t.p, .int .i32 ho.t.n.co, slV ho.t.s] 35)) V) => (show DlAt V (fun _ => True) ho d from ⟨HY.out.1, TxAt.tru HY.out.2 hV⟩))
  clear hb hbb hdo HY HCL g1
  go_upto_region 6 with (first | (apply wpList_storeTop 35 35; exact rfl; exact rfl; exact rfl; (first | (with_reducible rfl) | (exact sz1 _ _) | (exact sz2 _ _ _)); exact rfl; exact infDl; exact rfl; (first | exact oneDl _ | simp [Value.oneCell'])) | fail)
  change Code.wp _ _ _ _ (w2.alloc (.cells #[.int .i64 ho.se, .int .i32 ho.xi, .int .i64 ho.zx, .int .i64 ho.ti, .int .i32 ho.t.n.ty, .string ho.t.n.path, slV ho.t.d, slV ho.t.a, .int .i64 ho.t.n.ow, .int .i32 ho.t.n.ve, .int .i32 ho.t.n.cr, .bool ho.t.n.qh, .int .i64 ho.t.n.qc, .int .i64 ho.t.n.qb, .int .i64 ho.t.n.si, .int .i32 ho.t.n.st, slV ho.t.i, slV ho.t.p, .int .i32 ho.t.n.co, slV ho.t.s] 35))
  generalize w2.alloc (.cells #[.int .i64 ho.se, .int .i32 ho.xi, .int .i64 ho.zx, .int .i64 ho.ti, .int .i32 ho.t.n.ty, .string ho.t.n.path, slV ho.t.d, slV ho.t.a, .int .i64 ho.t.n.ow, .int .i32 ho.t.n.ve, .int .i32 ho.t.n.cr, .bool ho.t.n.qh, .int .i64 ho.t.n.qc, .int .i64 ho.t.n.qb, .int .i64 ho.t.n.si, .int .i32 ho.t.n.st, slV ho.t.i, slV ho.t.p, .int .i32 ho.t.n.co, slV ho.t.s] 35) = W3 at *
  have HC3 := Lib.hid (Below.refl W3.heap.size W3)
  have HED := Lib.hid (fun (V : World) (hV : Below W3.heap.size W3 V) => (show Env V from HE.out.below (Nat.le_refl _) (HB3.out.trans (hV.mono HB3.out.size))))
  have HC4 := Lib.hid (cloneDlU_any ho d W3 _ (HO.out _ HC3.out) HSM.out)
  go_wp2_with (first | (apply wpList_loadRow 35 35; exact rfl; exact rfl; exact rfl; assumption; exact undDl; exact rfl; exact infDl) | fail)
  refine HC4.out.mono ?_
  rintro e w4 ⟨⟨h4, rfl, hd4⟩, hb⟩
  have HSP := Lib.hid (spoil13_any d.t h4.t w4 W3.heap.size (Sh.of hd4.2 (fun _ h => h) HSM.out.2) hb.size)
  clear hd4 HC4
  have hfd := field_dl h4
  go_wp2_with fail
  refine HSP.out.mono ?_
  rintro e w5 ⟨rfl, hm⟩
  have HC5 := Lib.hid (HC3.out.trans ((hb.trans hm.b).mono HC3.out.size))
  have g5 := (HC5.out.block _ (Array.getElem?_eq_some_iff.1 g3).1).trans g3
  have y5 := (HC5.out.block _ (Array.getElem?_eq_some_iff.1 y3).1).trans y3
  clear hb hm HSP
  have HST := Lib.hid (stepsU_any ho d w5 _ (HO.out _ HC5.out) (HED.out _ HC5.out) HSM.out)
  go_wp2_with (first | (apply wpList_loadRow 35 35; exact rfl; exact rfl; exact rfl; assumption; exact undDl; exact rfl; exact infDl) | fail)
  refine HST.out.mono ?_
  rintro e w6 ⟨⟨A6, c6, rfl, hls⟩, hb⟩
  have HN6 := Lib.hid (show (stepsD d).length ≤ 1048576 from stepsD_le HSM.out.2.top.2.2.2.2.2.2.1 HSM.out.2.top.2.2.2.2.2.1)
  have HSH := Lib.hid (LsR.sh hls (steps_ok HSM.out) HN6.out)
  have HW5 := Lib.hid hb.size
  have HC6 := Lib.hid (HC5.out.trans ((hb).mono HC5.out.size))
  have g6 := (HC6.out.block _ (Array.getElem?_eq_some_iff.1 g3).1).trans g3
  have y6 := (HC6.out.block _ (Array.getElem?_eq_some_iff.1 y3).1).trans y3
  clear hls hb HST g5 y5
  generalize stepsD d = ts at *
  go_wp2_with fail
  go_loopw [5] (fun i wr => ∃ k : Nat, i = .int .i64 ↑k ∧ k ≤ ts.length ∧ Mild w5.heap.size w6 wr) (fun i _ => ts.length - (RowKit.intOf i).toNat)
  case atStart => exact ⟨0, rfl, Nat.zero_le _, Mild.refl _ _⟩
  case round =>
  obtain ⟨k, rfl, hk, hm⟩ := hrel
  have HM := Lib.hid hm
  clear hm
  have hn6 := HN6.out
  by_cases hlt : k < ts.length
  · obtain ⟨L, hL, hsub⟩ := TrAt.subs_at (Sh.mild HSH.out HM.out _ ⟨rfl, rfl, rfl, rfl, rfl⟩)
    obtain ⟨b, off, e, hb, hr⟩ := hL.2.2 (show 0 < ts.length by omega)
    have e : A6 = some ⟨b, off, none⟩ := e
    have hrg : wr.rangeAt b (off + k * 16) (encTx L[k]!) := fun i u hu => hr k hlt i u hu
    have hki : (k : Int) < (ts.length : Int) := by omega
    have hk0 : (0 : Int) ≤ (k : Int) := by omega
    have HK := Lib.hid hlt
    have HSP := Lib.hid (spoil13_any ts[k]! L[k]! wr w5.heap.size (hsub k hlt) (Nat.le_trans HW5.out HM.out.b.size))
    subst e
    generalize L[k]! = hk9 at *
    clear hr hb hL hsub g6 y6
    go_wp2_with (first | (apply wpList_loadMid 33; exact rfl; exact rfl; exact rfl; exact hrg; exact undTx; exact rfl; exact infTx) | fail)
    refine HSP.out.mono ?_
    rintro e w7 ⟨rfl, hm1⟩
    have HM1 := Lib.hid (HM.out.trans hm1)
    clear hm1 hrg HSP
    go_wp2_with fail
    go_roundw
    case rel => exact ⟨k + 1, by go_num, by have := HK.out; omega, HM1.out⟩
    case measure => have := HK.out; show ts.length - ((↑k + 1 : Int)).toNat < ts.length - (↑k : Int).toNat; omega
  obtain rfl : k = ts.length := by omega
  have hki : ¬ ((ts.length : Int) < (ts.length : Int)) := by omega
  clear hlt
  rename World => w7
  have HC7 := Lib.hid (HC6.out.trans (HM.out.b.mono HC5.out.size))
  have g7 := (HC7.out.block _ (Array.getElem?_eq_some_iff.1 g3).1).trans g3
  have y7 := (HC7.out.block _ (Array.getElem?_eq_some_iff.1 y3).1).trans y3
  clear g6 y6 HM HSH
  have HTO := Lib.hid (touched_any ho d w7 _ (HO.out _ HC7.out) (HED.out _ HC7.out) HSM.out)
  go_wp2_with (first | (apply wpList_loadRow 35 35; exact rfl; exact rfl; exact rfl; assumption; exact undDl; exact rfl; exact infDl) | fail)
  refine HTO.out.mono ?_
  rintro e w8 ⟨A8, c8, rfl, hrow, hb⟩
  have HN8 := Lib.hid (touch_le HSM.out)
  have HRW := Lib.hid hrow
  have HW7 := Lib.hid hb.size
  have HC8 := Lib.hid (HC7.out.trans ((hb).mono HC7.out.size))
  have g8 := (HC8.out.block _ (Array.getElem?_eq_some_iff.1 g3).1).trans g3
  have y8 := (HC8.out.block _ (Array.getElem?_eq_some_iff.1 y3).1).trans y3
  clear hrow hb HTO g7 y7
  generalize touchD d = ps at *
  go_wp2_with fail
  go_loopw [7] (fun i wr => ∃ k : Nat, i = .int .i64 ↑k ∧ k ≤ ps.length ∧ Mild w7.heap.size w8 wr) (fun i _ => ps.length - (RowKit.intOf i).toNat)
  case atStart => exact ⟨0, rfl, Nat.zero_le _, Mild.refl _ _⟩
  case round =>
  obtain ⟨k, rfl, hk, hm⟩ := hrel
  have HM := Lib.hid hm
  clear hm
  have hn8 := HN8.out
  by_cases hlt : k < ps.length
  · obtain ⟨b, off, e, hb, ⟨s, hc⟩, hf⟩ := str_place HRW.out rfl HM.out hlt
    have hki : (k : Int) < (ps.length : Int) := by omega
    have hk0 : (0 : Int) ≤ (k : Int) := by omega
    have HK := Lib.hid hlt
    have HMS := Lib.hid (fun (v : Value) (hv : SK (.string s) v) => HM.out.trans (Mild.set wr hc hv hb))
    subst e
    clear hb g8 y8
    go_wp2_with fail
    go_roundw
    case rel => exact ⟨k + 1, by go_num, by have := HK.out; omega, HMS.out _ (.inr (.inr ⟨_, _, rfl, rfl⟩))⟩
    case measure => have := HK.out; show ps.length - ((↑k + 1 : Int)).toNat < ps.length - (↑k : Int).toNat; omega
  obtain rfl : k = ps.length := by omega
  have hki : ¬ ((ps.length : Int) < (ps.length : Int)) := by omega
  clear hlt
  rename World => w9
  have HC9 := Lib.hid (HC8.out.trans (HM.out.b.mono HC7.out.size))
  have g9 := (HC9.out.block _ (Array.getElem?_eq_some_iff.1 g3).1).trans g3
  have y9 := (HC9.out.block _ (Array.getElem?_eq_some_iff.1 y3).1).trans y3
  clear g8 y8 HM HRW
  have HEN := Lib.hid (encode_any ho d w9 _ (HO.out _ HC9.out) (HED.out _ HC9.out) HSM.out)
  go_wp2_with (first | (apply wpList_loadRow 35 35; exact rfl; exact rfl; exact rfl; assumption; exact undDl; exact rfl; exact infDl) | fail)
  refine HEN.out.mono ?_
  rintro e w10 ⟨hb, hm⟩
  have HC10 := Lib.hid (HC9.out.trans ((hb).mono HC9.out.size))
  have g10 := (HC10.out.block _ (Array.getElem?_eq_some_iff.1 g3).1).trans g3
  have y10 := (HC10.out.block _ (Array.getElem?_eq_some_iff.1 y3).1).trans y3
  clear hb HEN g9 y9
  rcases hm with ⟨hr, rfl⟩ | ⟨hr, A1, c1, rfl, hrow⟩
  · generalize rightE d = x at *
    have b2 : (x == 0) = false := beq_eq_false_iff_ne.2 hr
    clear hr
    have HBF := Lib.hid (HB3.out.trans (HC10.out.mono HB3.out.size))
    have HSA := Lib.hid (sameDlG d d ho h w10 _ _ (HO.out _ HC10.out) (HDW.out _ HBF.out) HSM.out HSM.out)
    go_wp2_with (first | (apply wpList_loadRow 35 35; exact rfl; exact rfl; exact rfl; assumption; exact undDl; exact rfl; exact infDl) | fail)
    refine HSA.out.mono ?_
    rintro e wz ⟨rfl, hb⟩
    rw [sameD_eq rfl]
    have HBZ := Lib.hid (HBF.out.trans (hb.mono HBF.out.size))
    clear hb HSA
    go_wp2_with fail
    go_ret
    exact RetB.mk HBZ.out rfl
  have HDF := Lib.hid (dec_fwd hr HSM.out)
  have HLE := Lib.hid (enc_small hr HSM.out)
  clear hr
  generalize encB d = L at *
  obtain ⟨m, hm⟩ : ∃ m, L.length = m := ⟨_, rfl⟩
  rw [hm] at hrow HLE
  rw [hm]
  have HAR := Lib.hid (fun (V : World) (hV : Below w10.heap.size w10 V) => (hrow.argC hm (Nat.le_succ_of_le HLE.out)).below hV)
  have HM9 := Lib.hid hm
  clear hrow hm
  have hba : Below w10.heap.size w10 (w10.alloc (.cells #[] 5)) := (Below.refl _ w10).alloc (Nat.le_refl _) _
  have HO0 := Lib.hid (own_empty (T := 5) (k := 1) w10)
  have HSL := Lib.hid (show Sl (w10.alloc (.cells #[] 5)) (w10.alloc (.cells #[] 5)).heap.size enc8 1 A1 m L from (HAR.out _ hba).1)
  have HN0 := Lib.hid (HAR.out _ (Below.refl _ _)).2.1
  have HBA := Lib.hid hba
  clear hba
  go_wp2_with (at_builtin; refine wpList_app8 rfl _ _ rfl w10.heap.size (some ⟨w10.heap.size, 0, none⟩) 0 0 [] ?hx1 HO0.out A1 m c1 L ?hy1 HSL.out HN0.out (by have := HLE.out; omega) HBA.out.size ?hk1)
  (try case hx1 => rfl)
  (try case hy1 => rfl)
  case hk1 =>
  intro A6 c6 w11 hv6 hg6
  (try rw [Nat.zero_add] at hv6)
  (try rw [Nat.zero_add])
  (try rw [List.nil_append] at hv6)
  have hb : Below w10.heap.size w10 w11 := HBA.out.grown hg6 HBA.out.size (fun j hj => by simp [Value.ownBlock] at hj; omega)
  have HRM := Lib.hid (show Row8 w11 w10.heap.size A6 m c6 L from hv6)
  have HC11 := Lib.hid (HC10.out.trans ((hb).mono HC10.out.size))
  have g11 := (HC11.out.block _ (Array.getElem?_eq_some_iff.1 g3).1).trans g3
  have y11 := (HC11.out.block _ (Array.getElem?_eq_some_iff.1 y3).1).trans y3
  have HAR1 := Lib.hid (HAR.out _ hb)
  clear hb hv6 hg6 HSL HO0 HN0 HBA HAR g10 y10
  have HDE := Lib.hid (decode_any (Row8.argC HRM.out HM9.out (Nat.le_succ_of_le HLE.out)) (HED.out _ HC11.out))
  go_wp2_with fail
  refine HDE.out.mono ?_
  rintro e w12 ⟨hb, hc, rfl, hdc⟩
  rw [HDF.out] at hdc
  rw [HDF.out]
  dsimp only at hdc ⊢
  have hbb : Below w12.heap.size w12 (w12.alloc (.cells #[.int .i64 hc.se, .int .i32 hc.xi, .int .i64 hc.zx, .int .i64 hc.ti, .int .i32 hc.t.n.ty, .string hc.t.n.path, slV hc.t.d, slV hc.t.a, .int .i64 hc.t.n.ow, .int .i32 hc.t.n.ve, .int .i32 hc.t.n.cr, .bool hc.t.n.qh, .int .i64 hc.t.n.qc, .int .i64 hc.t.n.qb, .int .i64 hc.t.n.si, .int .i32 hc.t.n.st, slV hc.t.i, slV hc.t.p, .int .i32 hc.t.n.co, slV hc.t.s] 35)) := (Below.refl _ w12).alloc (Nat.le_refl _) _
  have yc := heap_s0 w12 (.cells #[.int .i64 hc.se, .int .i32 hc.xi, .int .i64 hc.zx, .int .i64 hc.ti, .int .i32 hc.t.n.ty, .string hc.t.n.path, slV hc.t.d, slV hc.t.a, .int .i64 hc.t.n.ow, .int .i32 hc.t.n.ve, .int .i32 hc.t.n.cr, .bool hc.t.n.qh, .int .i64 hc.t.n.qc, .int .i64 hc.t.n.qb, .int .i64 hc.t.n.si, .int .i32 hc.t.n.st, slV hc.t.i, slV hc.t.p, .int .i32 hc.t.n.co, slV hc.t.s] 35)
  have hrg : (w12.alloc (.cells #[.int .i64 hc.se, .int .i32 hc.xi, .int .i64 hc.zx, .int .i64 hc.ti, .int .i32 hc.t.n.ty, .string hc.t.n.path, slV hc.t.d, slV hc.t.a, .int .i64 hc.t.n.ow, .int .i32 hc.t.n.ve, .int .i32 hc.t.n.cr, .bool hc.t.n.qh, .int .i64 hc.t.n.qc, .int .i64 hc.t.n.qb, .int .i64 hc.t.n.si, .int .i32 hc.t.n.st, slV hc.t.i, slV hc.t.p, .int .i32 hc.t.n.co, slV hc.t.s] 35)).rangeAt w12.heap.size 4 (encTx hc.t) := rangeAt_heapC (pre := [.int .i64 hc.se, .int .i32 hc.xi, .int .i64 hc.zx, .int .i64 hc.ti]) (mid := encTx hc.t) (post := []) yc rfl rfl
  have HB13 := Lib.hid (hb.trans (hbb.mono hb.size))
  have hta : TxAt (w12.alloc (.cells #[.int .i64 hc.se, .int .i32 hc.xi, .int .i64 hc.zx, .int .i64 hc.ti, .int .i32 hc.t.n.ty, .string hc.t.n.path, slV hc.t.d, slV hc.t.a, .int .i64 hc.t.n.ow, .int .i32 hc.t.n.ve, .int .i32 hc.t.n.cr, .bool hc.t.n.qh, .int .i64 hc.t.n.qc, .int .i64 hc.t.n.qb, .int .i64 hc.t.n.si, .int .i32 hc.t.n.st, slV hc.t.i, slV hc.t.p, .int .i32 hc.t.n.co, slV hc.t.s] 35)) (UfR (w12.alloc (.cells #[.int .i64 hc.se, .int .i32 hc.xi, .int .i64 hc.zx, .int .i64 hc.ti, .int .i32 hc.t.n.ty, .string hc.t.n.path, slV hc.t.d, slV hc.t.a, .int .i64 hc.t.n.ow, .int .i32 hc.t.n.ve, .int .i32 hc.t.n.cr, .bool hc.t.n.qh, .int .i64 hc.t.n.qc, .int .i64 hc.t.n.qb, .int .i64 hc.t.n.si, .int .i32 hc.t.n.st, slV hc.t.i, slV hc.t.p, .int .i32 hc.t.n.co, slV hc.t.s] 35)) w11.heap.size) hc.t d.t := TrAt.fr kTxOk hdc.2 (Fr.of_below (own := []) hbb) (fun b hlt h => ⟨by simp, UfR.fr hlt h.uf (Fr.of_below (own := []) hbb) (by simp) (Nat.le_refl _)⟩)
  have HSP := Lib.hid (spoil13_any d.t hc.t (w12.alloc (.cells #[.int .i64 hc.se, .int .i32 hc.xi, .int .i64 hc.zx, .int .i64 hc.ti, .int .i32 hc.t.n.ty, .string hc.t.n.path, slV hc.t.d, slV hc.t.a, .int .i64 hc.t.n.ow, .int .i32 hc.t.n.ve, .int .i32 hc.t.n.cr, .bool hc.t.n.qh, .int .i64 hc.t.n.qc, .int .i64 hc.t.n.qb, .int .i64 hc.t.n.si, .int .i32 hc.t.n.st, slV hc.t.i, slV hc.t.p, .int .i32 hc.t.n.co, slV hc.t.s] 35)) w11.heap.size (Sh.of hta (fun _ h => h) HSM.out.2) HB13.out.size)
  clear hb hbb hdc hta HDE yc HDF
  go_upto_region 21 with (first | (apply wpList_storeTop 35 35; exact rfl; exact rfl; exact rfl; (first | (with_reducible rfl) | (exact sz1 _ _) | (exact sz2 _ _ _)); exact rfl; exact infDl; exact rfl; (first | exact oneDl _ | simp [Value.oneCell'])) | fail)
  change Code.wp _ _ _ _ (w12.alloc (.cells #[.int .i64 hc.se, .int .i32 hc.xi, .int .i64 hc.zx, .int .i64 hc.ti, .int .i32 hc.t.n.ty, .string hc.t.n.path, slV hc.t.d, slV hc.t.a, .int .i64 hc.t.n.ow, .int .i32 hc.t.n.ve, .int .i32 hc.t.n.cr, .bool hc.t.n.qh, .int .i64 hc.t.n.qc, .int .i64 hc.t.n.qb, .int .i64 hc.t.n.si, .int .i32 hc.t.n.st, slV hc.t.i, slV hc.t.p, .int .i32 hc.t.n.co, slV hc.t.s] 35))
  generalize w12.alloc (.cells #[.int .i64 hc.se, .int .i32 hc.xi, .int .i64 hc.zx, .int .i64 hc.ti, .int .i32 hc.t.n.ty, .string hc.t.n.path, slV hc.t.d, slV hc.t.a, .int .i64 hc.t.n.ow, .int .i32 hc.t.n.ve, .int .i32 hc.t.n.cr, .bool hc.t.n.qh, .int .i64 hc.t.n.qc, .int .i64 hc.t.n.qb, .int .i64 hc.t.n.si, .int .i32 hc.t.n.st, slV hc.t.i, slV hc.t.p, .int .i32 hc.t.n.co, slV hc.t.s] 35) = W13 at *
  go_wp2_with (first | (apply wpList_loadMid 33; exact rfl; exact rfl; exact rfl; exact hrg; exact undTx; exact rfl; exact infTx) | fail)
  refine HSP.out.mono ?_
  rintro e w14 ⟨rfl, hmm⟩
  have hb := HB13.out.trans hmm.b
  have HC14 := Lib.hid (HC11.out.trans ((hb).mono HC11.out.size))
  have g14 := (HC14.out.block _ (Array.getElem?_eq_some_iff.1 g3).1).trans g3
  have y14 := (HC14.out.block _ (Array.getElem?_eq_some_iff.1 y3).1).trans y3
  have CV1 := conv_slT (c := c6) ((Row8.sl HRM.out HM9.out).belowMore hb hb.size)
  have CV2 := conv_slT (c := c1) (HAR1.out.1.belowMore hb hb.size)
  have hse : ((toBA L).toList == (toBA L).toList) = true := str_eq rfl
  clear hb hmm HSP HB13 HAR1 HRM hrg g11 y11
  have HBF := Lib.hid (HB3.out.trans (HC14.out.mono HB3.out.size))
  have HSA := Lib.hid (sameDlG d d ho h w14 _ _ (HO.out _ HC14.out) (HDW.out _ HBF.out) HSM.out HSM.out)
  go_wp2_with (first | (apply wpList_loadRow 35 35; exact rfl; exact rfl; exact rfl; assumption; exact undDl; exact rfl; exact infDl) | fail)
  refine HSA.out.mono ?_
  rintro e wz ⟨rfl, hb⟩
  rw [sameD_eq rfl]
  have HBZ := Lib.hid (HBF.out.trans (hb.mono HBF.out.size))
  clear hb HSA
  go_wp2_with fail
  go_ret
  exact RetB.mk HBZ.out rfl
end Go.Proofs.YthpjneobmmpbnaaGreatDoor

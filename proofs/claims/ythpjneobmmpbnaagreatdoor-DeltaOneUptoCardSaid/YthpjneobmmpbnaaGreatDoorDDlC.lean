/- The walk of the program's Steps. Condition: lists of at most 2^20. -/
import Derived.Test.YthpjneobmmpbnaaGreatDoorDRfK
import Derived.Test.YthpjneobmmpbnaaGreatDoorDRfF
import Derived.Test.YthpjneobmmpbnaaGreatDoorDDltF
import Derived.Deep.CutBlock
import Derived.Test.YthpjneobmmpbnaaGreatDoorDRfB
import Derived.Test.YthpjneobmmpbnaaGreatDoorDDltG
import Derived.Test.YthpjneobmmpbnaaGreatDoorDPathW
import Derived.Test.YthpjneobmmpbnaaGreatDoorDCloR
namespace Go.Proofs.YthpjneobmmpbnaaGreatDoor
open Go.RowKit Go.MapKept Go.Maps
theorem SlR.tru {α : Type} [Inhabited α] {w w' : World} {R : Nat → Prop} {enc : α → List Value} {k : Nat} {h : SlC} {zs : List α} (H : SlR w R enc k h zs) (hb : Below w.heap.size w w') (hk : ∀ x, 0 < (enc x).length) : SlR w' (fun _ => True) enc k h zs := H.fr (Fr.of_below (own := []) hb) (fun b _ _ => ⟨by simp, trivial⟩) hk
theorem TxAt.tru {w w' : World} {R : Nat → Prop} {h : TxH} {t : TxT} (H : TxAt w R h t) (hb : Below w.heap.size w w') : TxAt w' (fun _ => True) h t := TrAt.fr kTxOk H (Fr.of_below (own := []) hb) (fun b _ _ => ⟨by simp, trivial⟩)
theorem OnT.bel {T : TypeId} {k n c B : Nat} {xs : List Value} {A A' : Option Addr} {w w' : World} (h : OnT A A' w w') (hr : w.ownsRow B T k (.slice A n c) n xs) (hB : B ≤ w.heap.size) : Below B w w' := by
  obtain ⟨own, hf, _, hoA⟩ := h.keep
  refine hf.below hB (fun g hg => ?_)
  have e := hoA g hg
  rcases own_at hr with ⟨e2, _⟩ | ⟨g2, cur, e2, h2, _⟩
  · rw [e2] at e; cases e
  · rw [e2] at e; injection e with e; injection e with e3 _; omega
/-- the list of those that take paths away -/
structure DsR (W : World) (ps : List ByteArray) (k : Nat) (A : Option Addr) (c : Nat) (wr : World) : Prop where
  b : Below W.heap.size W wr
  r : wr.ownsRow W.heap.size 33 16 (.slice A k c) k ((ps.take k).map delH |>.flatMap encTx)
theorem DsR.src {W : World} {ps : List ByteArray} {A : Option Addr} {c : Nat} {wr : World} (H : DsR W ps ps.length A c wr) (hn : ps.length ≤ 1048576) (hs : ∀ j, j < ps.length → ps[j]!.size ≤ 1048576) : SrR (ps.map delT) A ps.length c wr := by
  have hr := H.r
  rw [List.take_length] at hr
  have hg : ∀ j, j < ps.length → (ps.map delH)[j]! = delH ps[j]! ∧ (ps.map delT)[j]! = delT ps[j]! := fun j hj => by
    rw [getElem!_pos ps _ hj]
    refine ⟨?_, ?_⟩
    · rw [getElem!_pos (ps.map delH) j (by rw [List.length_map]; exact hj), List.getElem_map]
    · rw [getElem!_pos (ps.map delT) j (by rw [List.length_map]; exact hj), List.getElem_map]
  refine ⟨⟨ps.map delH, (own_slr hr (fun _ => rfl) (by simp)).tru (Below.refl _ _) (fun _ => by simp [encTx]), fun j hj => ?_, by simp, hn, fun j hj => ?_⟩⟩
  · rw [(hg j hj).1, (hg j hj).2]; exact del_at _ _ _
  · rw [(hg j hj).2]; exact del_ok (hs j hj)
/-- what the loop reads: the transactions of a delta -/
def SrcV (t : TxT) (w : World) (v : Value) (wx : World) : Prop := ∃ A n c, v = .slice A n c ∧ SrR (stepsL t) A n c wx ∧ Below w.heap.size w wx
/-- the second loop's state -/
structure StL (RR : World → Nat → Nat → Prop) (W : World) (ls : List TxT) (k : Nat) (v : Value) (wr : World) : Prop where
  b : Below W.heap.size W wr
  r : ∃ A c, v = .slice A (stK ls k).length c ∧ LsR RR W.heap.size (stK ls k) A c wr
set_option linter.unusedSimpArgs false in
set_option maxRecDepth 100000 in
set_option maxHeartbeats 20000000 in
theorem steps13_any {RR : World → Nat → Nat → Prop} (K : RKind RR) (hge : ∀ w B b, RR w B b → B ≤ b) (hcl : ∀ (t : TxT) (h : TxH) (w : World) (R : Nat → Prop), TxAt w R h t → TxOk 1048576 t → Calls Tryz.prog 56 #[txV h] w (fun e w' => (∃ h', e = .returned (txV h') ∧ TxAt w' (RR w' w.heap.size) h' t) ∧ Below w.heap.size w w'))
    (h : DlH) (d : DlT) (w : World) (R : Nat → Prop) (hd : DlAt w R h d) (hE : Env w) (hsm : DlSm 1048576 d) : Calls Tryz.prog 23 #[dlV h] w (StepsP RR (stepsD d) w) := by
  have hl := hd.2.loc
  obtain ⟨L, hL, hsub⟩ := hd.2.subs_at
  have hn := hl.1
  have hlen := hd.2.len
  have htop := hsm.2.top
  have HRI := Lib.hid (fun (V : World) (hV : Below w.heap.size w V) => right13_any h d V (fun _ => True) ⟨hd.1, TxAt.tru hd.2 hV⟩ (hE.below (Nat.le_refl _) hV) hsm)
  have HTY := Lib.hid (show d.t.v.n.ty = h.t.n.ty by rw [hn])
  have HSUBS := Lib.hid (fun (V : World) (hV : Below w.heap.size w V) => (show SrR d.t.subs h.t.s.1 h.t.s.2.1 h.t.s.2.2 V from ⟨⟨L, SlR.tru (enc := encTx) (k := 16) hL hV (fun _ => by simp [encTx]), fun j hj => TxAt.tru (hsub j hj) hV, hlen, by have := htop.2.2.2.2.2.2.1; rw [hlen] at this; exact this, fun j hj => hsm.2.subAt (j := j) (by rw [hlen]; exact hj)⟩⟩))
  have HONE := Lib.hid (fun (V : World) (hV : Below w.heap.size w V) => (show TxAt V (fun _ => True) h.t d.t from TxAt.tru hd.2 hV))
  have HPS := Lib.hid hl.2.2.2.2
  have HPN := Lib.hid (show d.t.v.paths.length ≤ 1048576 from htop.2.2.2.2.2.1)
  have HPZ := Lib.hid (show ∀ j, j < d.t.v.paths.length → d.t.v.paths[j]!.size ≤ 1048576 from htop.2.2.2.2.2.2.2.2.2)
  have HOK := Lib.hid hsm.2
  have HK := Lib.hid K; have HCL := Lib.hid hcl; have HGE := Lib.hid hge
  clear hl hL hsub hn hlen htop hd hE hsm K hcl hge
  have hb0 : Below w.heap.size w (w.alloc (.cells #[.int .i64 h.se, .int .i32 h.xi, .int .i64 h.zx, .int .i64 h.ti, .int .i32 h.t.n.ty, .string h.t.n.path, slV h.t.d, slV h.t.a, .int .i64 h.t.n.ow, .int .i32 h.t.n.ve, .int .i32 h.t.n.cr, .bool h.t.n.qh, .int .i64 h.t.n.qc, .int .i64 h.t.n.qb, .int .i64 h.t.n.si, .int .i32 h.t.n.st, slV h.t.i, slV h.t.p, .int .i32 h.t.n.co, slV h.t.s] 35)) := (Below.refl _ w).alloc (Nat.le_refl _) _
  have HG0 := Lib.hid (heap_s0 w (.cells #[.int .i64 h.se, .int .i32 h.xi, .int .i64 h.zx, .int .i64 h.ti, .int .i32 h.t.n.ty, .string h.t.n.path, slV h.t.d, slV h.t.a, .int .i64 h.t.n.ow, .int .i32 h.t.n.ve, .int .i32 h.t.n.cr, .bool h.t.n.qh, .int .i64 h.t.n.qc, .int .i64 h.t.n.qb, .int .i64 h.t.n.si, .int .i32 h.t.n.st, slV h.t.i, slV h.t.p, .int .i32 h.t.n.co, slV h.t.s] 35))
  have HZ0 := Lib.hid (sz1 w (.cells #[.int .i64 h.se, .int .i32 h.xi, .int .i64 h.zx, .int .i64 h.ti, .int .i32 h.t.n.ty, .string h.t.n.path, slV h.t.d, slV h.t.a, .int .i64 h.t.n.ow, .int .i32 h.t.n.ve, .int .i32 h.t.n.cr, .bool h.t.n.qh, .int .i64 h.t.n.qc, .int .i64 h.t.n.qb, .int .i64 h.t.n.si, .int .i32 h.t.n.st, slV h.t.i, slV h.t.p, .int .i32 h.t.n.co, slV h.t.s] 35))
  have HB := Lib.hid hb0
  clear hb0
  go_enter Tryz.func23, Tryz.ntmps23
  go_upto_region 1 with fail
  generalize w.alloc (.cells #[.int .i64 h.se, .int .i32 h.xi, .int .i64 h.zx, .int .i64 h.ti, .int .i32 h.t.n.ty, .string h.t.n.path, slV h.t.d, slV h.t.a, .int .i64 h.t.n.ow, .int .i32 h.t.n.ve, .int .i32 h.t.n.cr, .bool h.t.n.qh, .int .i64 h.t.n.qc, .int .i64 h.t.n.qb, .int .i64 h.t.n.si, .int .i32 h.t.n.st, slV h.t.i, slV h.t.p, .int .i32 h.t.n.co, slV h.t.s] 35) = W at *
  have g0 := HG0.out
  have HX4 := Lib.hid (fun (V : World) (hV : Below W.heap.size W V) => (show V.rangeAt w.heap.size 4 (encTx h.t) from rangeAt_heapC (pre := [.int .i64 h.se, .int .i32 h.xi, .int .i64 h.zx, .int .i64 h.ti]) (mid := encTx h.t) (post := []) ((hV.block _ (by have := HZ0.out; omega)).trans HG0.out) rfl rfl))
  have HD4 := Lib.hid (fun (V : World) (hV : Below W.heap.size W V) => (show V.cell? ⟨w.heap.size, 4, none⟩ = some (.int .i32 h.t.n.ty) by rw [cellH ((hV.block _ (by have := HZ0.out; omega)).trans HG0.out)]; rfl))
  have HD17 := Lib.hid (fun (V : World) (hV : Below W.heap.size W V) => (show V.cell? ⟨w.heap.size, 17, none⟩ = some (slV h.t.p) by rw [cellH ((hV.block _ (by have := HZ0.out; omega)).trans HG0.out)]; rfl))
  have HD19 := Lib.hid (fun (V : World) (hV : Below W.heap.size W V) => (show V.cell? ⟨w.heap.size, 19, none⟩ = some (slV h.t.s) by rw [cellH ((hV.block _ (by have := HZ0.out; omega)).trans HG0.out)]; rfl))

  have hri := (HRI.out W HB.out)
  go_wp2_with (first
    | (apply wpList_loadRow 35 35; exact rfl; exact rfl; exact rfl; (first | assumption | (refine heap_under ?_; assumption) | (exact heap_s0 _ _) | (exact heap_s1 _ _ _) | (exact heap_under (heap_s0 _ _))); exact undDl; exact rfl; exact infDl)
    | fail)
  refine hri.mono ?_
  rintro e w1 ⟨rfl, hb1⟩
  have HB1 := Lib.hid hb1
  clear hri hb1 g0 HRI
  by_cases hr0 : rightE d = 0
  case neg =>
    have HV := Lib.hid (stepsD_no hr0)
    generalize rightE d = x at *
    have d1 : (x != 0) = true := bne_iff_ne.2 hr0
    clear hr0
    go_wp2_with fail
    go_ret
    exact ⟨⟨none, 0, by rw [HV.out]; rfl, by rw [HV.out]; exact LsR.nil⟩, HB.out.trans (HB1.out.mono HB.out.size)⟩
  rw [hr0]
  have HV := Lib.hid (stepsD_ok hr0)
  clear hr0
  have y1 := HX4.out w1 HB1.out
  have HG3 := Lib.hid (heap_s0 w1 (.cells #[.int .i32 h.t.n.ty, .string h.t.n.path, slV h.t.d, slV h.t.a, .int .i64 h.t.n.ow, .int .i32 h.t.n.ve, .int .i32 h.t.n.cr, .bool h.t.n.qh, .int .i64 h.t.n.qc, .int .i64 h.t.n.qb, .int .i64 h.t.n.si, .int .i32 h.t.n.st, slV h.t.i, slV h.t.p, .int .i32 h.t.n.co, slV h.t.s] 33))
  have HZ3 := Lib.hid (sz1 w1 (.cells #[.int .i32 h.t.n.ty, .string h.t.n.path, slV h.t.d, slV h.t.a, .int .i64 h.t.n.ow, .int .i32 h.t.n.ve, .int .i32 h.t.n.cr, .bool h.t.n.qh, .int .i64 h.t.n.qc, .int .i64 h.t.n.qb, .int .i64 h.t.n.si, .int .i32 h.t.n.st, slV h.t.i, slV h.t.p, .int .i32 h.t.n.co, slV h.t.s] 33))
  have hb3 : Below w1.heap.size w1 (w1.alloc (.cells #[.int .i32 h.t.n.ty, .string h.t.n.path, slV h.t.d, slV h.t.a, .int .i64 h.t.n.ow, .int .i32 h.t.n.ve, .int .i32 h.t.n.cr, .bool h.t.n.qh, .int .i64 h.t.n.qc, .int .i64 h.t.n.qb, .int .i64 h.t.n.si, .int .i32 h.t.n.st, slV h.t.i, slV h.t.p, .int .i32 h.t.n.co, slV h.t.s] 33)) := (Below.refl _ w1).alloc (Nat.le_refl _) _
  have HB2 := Lib.hid (HB1.out.trans (hb3.mono HB1.out.size))
  clear hb3
  go_upto_region 4 with (first
    | (apply wpList_loadMid 33; exact rfl; exact rfl; exact rfl; exact (by assumption); exact undTx; exact rfl; exact infTx)
    | fail)
  generalize w1.alloc (.cells #[.int .i32 h.t.n.ty, .string h.t.n.path, slV h.t.d, slV h.t.a, .int .i64 h.t.n.ow, .int .i32 h.t.n.ve, .int .i32 h.t.n.cr, .bool h.t.n.qh, .int .i64 h.t.n.qc, .int .i64 h.t.n.qb, .int .i64 h.t.n.si, .int .i32 h.t.n.st, slV h.t.i, slV h.t.p, .int .i32 h.t.n.co, slV h.t.s] 33) = W2 at *
  clear y1
  have y4 := HD4.out W2 HB2.out
  go_upto_block 0 with fail
  clear y4
  have HB3 := Lib.hid (HB.out.trans (HB2.out.mono HB.out.size))
  have HO1 := Lib.hid (show SrR [d.t] (some ⟨w1.heap.size, 0, none⟩) 1 1 W2 from by
    refine ⟨⟨[h.t], ⟨rfl, ⟨fun e => (by cases e), Nat.le_refl _⟩, fun _ => ⟨w1.heap.size, 0, rfl, trivial, fun j hj i u hu => ?_⟩⟩, fun j hj => ?_, rfl, by decide, fun j hj => ?_⟩⟩
    · obtain rfl : j = 0 := by simp at hj; omega
      exact rangeAt_heapC (pre := []) (mid := encTx h.t) (post := []) HG3.out rfl rfl i u hu
    · obtain rfl : j = 0 := by omega
      exact HONE.out W2 HB3.out
    · obtain rfl : j = 0 := by omega
      exact HOK.out)
  have y19 := HD19.out W2 HB2.out
  have y17 := HD17.out W2 HB2.out
  have HTYN := Lib.hid (rfl : h.t.n.ty = h.t.n.ty)
  clear HG3
  go_cut [3, 5] from 12 to 41 (fun v _ wx => SrcV d.t w v wx)
  case first =>
    generalize h.t.n.ty = ty at *
    by_cases h14 : ty = 14
    · have HX := Lib.hid (show stepsL d.t = d.t.subs by unfold stepsL; rw [HTY.out, if_pos h14])
      have b1 : (ty == 14) = true := by rw [h14]; rfl
      clear h14
      go_wp2_with fail
      go_meet
      exact ⟨_, _, _, rfl, by rw [HX.out]; exact HSUBS.out W2 HB3.out, HB3.out⟩
    have b1 : (ty == 14) = false := beq_eq_false_iff_ne.2 h14
    by_cases h11 : ty = -11
    · have HX := Lib.hid (show stepsL d.t = d.t.v.paths.map delT by unfold stepsL; rw [HTY.out, if_neg h14, if_pos h11])
      have b2 : (ty == -11) = true := by rw [h11]; rfl
      clear h14 h11
      go_wp2_with fail
      have HPL := Lib.hid (show d.t.v.paths.length = h.t.p.2.1 from HPS.out.len)
      go_loopw [3, 5, 29] (fun v _ i wr => ∃ (k : Nat) (A : Option Addr) (c : Nat), i = .int .i64 ↑k ∧ k ≤ h.t.p.2.1 ∧ v = .slice A k c ∧ DsR W2 d.t.v.paths k A c wr) (fun _ _ i _ => h.t.p.2.1 - (RowKit.intOf i).toNat)
      case atStart => exact ⟨0, none, 0, rfl, Nat.zero_le _, rfl, ⟨Below.refl _ _, World.ownsRow_nil _ _ _ _⟩⟩
      case round =>
      obtain ⟨k, A, c, rfl, hk, rfl, hR⟩ := hrel
      have HR := Lib.hid hR
      clear hR
      have hpn := HPN.out
      rw [HPL.out] at hpn
      by_cases hlt : k < h.t.p.2.1
      · obtain ⟨b, off, ea, _, hca⟩ := HPS.out.2.2 (Nat.lt_of_le_of_lt (Nat.zero_le _) hlt)
        have y5 : wr.cell? ⟨b, off + k, none⟩ = some (.string d.t.v.paths[k]!) := by
          have := keep1 (hca k hlt 0 (.string d.t.v.paths[k]!) (by simp [encStr])) (HB3.out.trans (HR.out.b.mono HB3.out.size))
          rwa [show off + k * 1 + 0 = off + k by omega] at this
        have hki : (k : Int) < (h.t.p.2.1 : Int) := by omega
        have hk0 : (0 : Int) ≤ (k : Int) := by omega
        have hsl : slV h.t.p = .slice (some ⟨b, off, none⟩) h.t.p.2.1 h.t.p.2.2 := by rw [← ea]
        rw [hsl]
        have HSL := Lib.hid hsl
        have HTK := Lib.hid (show ((d.t.v.paths.take (k + 1)).map delH).flatMap encTx = ((d.t.v.paths.take k).map delH ++ [delH d.t.v.paths[k]!]).flatMap encTx by rw [takeS _ (by rw [HPL.out]; exact hlt), List.map_append]; rfl)
        have HLK := Lib.hid (show ((d.t.v.paths.take k).map delH).length = k by rw [List.length_map, List.length_take]; have := HPL.out; omega)
        have HOW := Lib.hid (own_later HR.out.r (show Below wr.heap.size wr (wr.alloc (.cells (encTx (delH d.t.v.paths[k]!)).toArray 33)) from (Below.refl _ wr).alloc (Nat.le_refl _) _))
        have HX7 := Lib.hid (show (wr.alloc (.cells (encTx (delH d.t.v.paths[k]!)).toArray 33)).rangeAt wr.heap.size 0 (encTx (delH d.t.v.paths[k]!)) from rangeAt_heapC (pre := []) (mid := encTx (delH d.t.v.paths[k]!)) (post := []) (heap_s0 wr _) (by simp) rfl)
        have HSZ := Lib.hid (show W2.heap.size ≤ (wr.alloc (.cells (encTx (delH d.t.v.paths[k]!)).toArray 33)).heap.size from Nat.le_trans HR.out.b.size (by rw [sz1]; exact Nat.le_succ _))
        have HBN := Lib.hid (show Below W2.heap.size W2 (wr.alloc (.cells (encTx (delH d.t.v.paths[k]!)).toArray 33)) from HR.out.b.alloc HR.out.b.size _)
        clear hca ea hsl
        generalize d.t.v.paths[k]! = pk at *
        go_upto_region 12 with fail
        clear y5
        go_wp2_with (first
          | (at_builtin; refine wpList_appT elemBTx HOW.out HLK.out (delH pk) wr.heap.size rfl _ _ rfl ?hx8 ?hy8 HX7.out (by omega) HSZ.out ?hk8)
          | fail)
        (try case hx8 => rfl)
        (try case hy8 => rfl)
        case hk8 =>
        intro A8 c8 w8 hv8 hon8
        have HRN := Lib.hid (show DsR W2 d.t.v.paths (k + 1) A8 c8 w8 from ⟨HBN.out.trans ((OnT.bel hon8 HOW.out HSZ.out).mono (Nat.le_refl _)), by rw [HTK.out, List.flatMap_append, List.flatMap_singleton]; simpa using hv8⟩)
        clear hv8 hon8 HR HX7 HOW HSZ HBN HTK HLK
        go_wp2_with fail
        go_roundw
        case rel => ((try rw [← HSL.out]); exact ⟨k + 1, A8, c8, by go_num, by omega, rfl, HRN.out⟩)
        case measure => simp [RowKit.intOf]; omega
      · obtain rfl : k = d.t.v.paths.length := by have := HPL.out; omega
        have hki : ¬ ((d.t.v.paths.length : Int) < (h.t.p.2.1 : Int)) := by omega
        have HSRC := Lib.hid (HR.out.src HPN.out HPZ.out)
        have HBF := Lib.hid (HB3.out.trans (HR.out.b.mono HB3.out.size))
        clear HR
        go_wp2_with fail
        go_meet
        exact ⟨_, _, _, rfl, by rw [HX.out]; exact HSRC.out, HBF.out⟩
    have b2 : (ty == -11) = false := beq_eq_false_iff_ne.2 h11
    by_cases h1 : ty = -1
    · have HX := Lib.hid (show stepsL d.t = [] by unfold stepsL; rw [HTY.out, if_neg h14, if_neg h11, if_pos (Or.inl h1)])
      have b3 : (ty == -1) = true := by rw [h1]; rfl
      clear h14 h11 h1
      go_wp2_with fail
      go_ret
      exact ⟨⟨none, 0, by rw [HV.out, HX.out]; rfl, by rw [HV.out, HX.out]; exact LsR.nil⟩, HB3.out⟩
    have b3 : (ty == -1) = false := beq_eq_false_iff_ne.2 h1
    by_cases h10 : ty = -10
    · have HX := Lib.hid (show stepsL d.t = [] by unfold stepsL; rw [HTY.out, if_neg h14, if_neg h11, if_pos (Or.inr h10)])
      have b4 : (ty == -10) = true := by rw [h10]; rfl
      clear h14 h11 h1 h10
      go_wp2_with fail
      go_ret
      exact ⟨⟨none, 0, by rw [HV.out, HX.out]; rfl, by rw [HV.out, HX.out]; exact LsR.nil⟩, HB3.out⟩
    have b4 : (ty == -10) = false := beq_eq_false_iff_ne.2 h10
    have HX := Lib.hid (show stepsL d.t = [d.t] by unfold stepsL; rw [HTY.out, if_neg h14, if_neg h11, if_neg (by intro h; rcases h with h | h; exact h1 h; exact h10 h)])
    clear h14 h11 h1 h10
    go_wp2_with fail
    go_meet
    exact ⟨_, _, _, rfl, by rw [HX.out]; exact HO1.out, HB3.out⟩
  case rest =>
  obtain ⟨A0, n, c0, rfl, hsr, hbx⟩ := hcut
  have HBX := Lib.hid hbx
  obtain ⟨Ls, hLs⟩ := hsr.r
  have HLS := Lib.hid hLs
  clear hsr hbx hLs HSUBS HONE HPS HPN HPZ HOK HX4 HD4 HD17 HD19 HO1
  go_wp2_with fail
  go_loopw [6, 8, 44] (fun v _ i wr => ∃ k : Nat, i = .int .i64 ↑k ∧ k ≤ n ∧ StL RR wc (stepsL d.t) k v wr) (fun _ _ i _ => n - (RowKit.intOf i).toNat)
  case atStart => exact ⟨0, rfl, Nat.zero_le _, ⟨Below.refl _ _, none, 0, rfl, LsR.nil⟩⟩
  case round =>
  obtain ⟨k, rfl, hk, hR⟩ := hrel
  obtain ⟨hbR, A, c, rfl, hls⟩ := hR
  have HBR := Lib.hid hbR; have HLR := Lib.hid hls
  clear hbR hls
  have HNM := Lib.hid HLS.out.2.2.2.1
  have HLL := Lib.hid HLS.out.2.2.1
  by_cases hlt : k < n
  · obtain ⟨b, off, ea, _, hca⟩ := HLS.out.1.2.2 (Nat.lt_of_le_of_lt (Nat.zero_le _) hlt)
    have ea : A0 = some ⟨b, off, none⟩ := ea
    subst ea
    have y6 : wr.rangeAt b (off + k * 16) (encTx Ls[k]!) := fun i u hu => keep1 (hca k hlt i u hu) HBR.out
    have HKL := Lib.hid (show k < (stepsL d.t).length by rw [HLL.out]; exact hlt)
    have HCK := Lib.hid (fun (V : World) (hV : Below wc.heap.size wc V) => HCL.out (stepsL d.t)[k]! Ls[k]! V _ (TxAt.tru (HLS.out.2.1 k hlt) hV) (HLS.out.2.2.2.2 k hlt))
    have HNK := Lib.hid (show notCk (stepsL d.t)[k]! = (Ls[k]!.n.ty != 13) by unfold notCk; rw [(HLS.out.2.1 k hlt).loc.1])
    have HMM := Lib.hid (show (stK (stepsL d.t) k).length ≤ 1048576 by have h1 := stK_le (stepsL d.t) k; have h2 := HNM.out; omega)
    have hnm := HNM.out
    have hki : (k : Int) < (n : Int) := by omega
    have hk0 : (0 : Int) ≤ (k : Int) := by omega
    clear hca
    generalize Ls[k]! = hj at *
    have g5 := heap_s0 wr (.cells #[.int .i32 hj.n.ty, .string hj.n.path, slV hj.d, slV hj.a, .int .i64 hj.n.ow, .int .i32 hj.n.ve, .int .i32 hj.n.cr, .bool hj.n.qh, .int .i64 hj.n.qc, .int .i64 hj.n.qb, .int .i64 hj.n.si, .int .i32 hj.n.st, slV hj.i, slV hj.p, .int .i32 hj.n.co, slV hj.s] 33)
    have HB5 := Lib.hid (show Below wr.heap.size wr (wr.alloc (.cells #[.int .i32 hj.n.ty, .string hj.n.path, slV hj.d, slV hj.a, .int .i64 hj.n.ow, .int .i32 hj.n.ve, .int .i32 hj.n.cr, .bool hj.n.qh, .int .i64 hj.n.qc, .int .i64 hj.n.qb, .int .i64 hj.n.si, .int .i32 hj.n.st, slV hj.i, slV hj.p, .int .i32 hj.n.co, slV hj.s] 33)) from (Below.refl _ wr).alloc (Nat.le_refl _) _)
    cases h13 : (hj.n.ty != 13) with
    | false =>
      have HRN := Lib.hid (show StL RR wc (stepsL d.t) (k + 1) (.slice A (stK (stepsL d.t) k).length c) (wr.alloc (.cells #[.int .i32 hj.n.ty, .string hj.n.path, slV hj.d, slV hj.a, .int .i64 hj.n.ow, .int .i32 hj.n.ve, .int .i32 hj.n.cr, .bool hj.n.qh, .int .i64 hj.n.qc, .int .i64 hj.n.qb, .int .i64 hj.n.si, .int .i32 hj.n.st, slV hj.i, slV hj.p, .int .i32 hj.n.co, slV hj.s] 33)) from ⟨HBR.out.trans (HB5.out.mono HBR.out.size), A, c, by rw [stK_skip HKL.out (by rw [HNK.out, h13])], by rw [stK_skip HKL.out (by rw [HNK.out, h13])]; exact HLR.out.below HK.out HB5.out⟩)
      go_wp2_with (first
        | (apply wpList_loadMid 33; exact rfl; exact rfl; exact rfl; exact (by assumption); exact undTx; exact rfl; exact infTx)
        | (apply wpList_storeTop 33 33; exact rfl; exact rfl; exact rfl; (first | (with_reducible rfl) | (exact sz1 _ _) | (exact sz2 _ _ _)); exact rfl; exact infTx; exact rfl; (first | exact oneTx _ | simp [Value.oneCell']))
        | (apply wpList_loadRow 33 33; exact rfl; exact rfl; exact rfl; (first | assumption | (refine heap_under ?_; assumption) | (exact heap_s0 _ _) | (exact heap_s1 _ _ _) | (exact heap_under (heap_s0 _ _))); exact undTx; exact rfl; exact infTx)
        | fail)
      go_roundw
      case rel => exact ⟨k + 1, by go_num, by omega, HRN.out⟩
      case measure => simp [RowKit.intOf]; omega
    | true =>
      have HNX := Lib.hid (show stK (stepsL d.t) (k + 1) = stK (stepsL d.t) k ++ [(stepsL d.t)[k]!] from stK_next HKL.out (by rw [HNK.out, h13]))
      go_upto_region 22 with (first
        | (apply wpList_loadMid 33; exact rfl; exact rfl; exact rfl; exact (by assumption); exact undTx; exact rfl; exact infTx)
        | (apply wpList_storeTop 33 33; exact rfl; exact rfl; exact rfl; (first | (with_reducible rfl) | (exact sz1 _ _) | (exact sz2 _ _ _)); exact rfl; exact infTx; exact rfl; (first | exact oneTx _ | simp [Value.oneCell']))
        | (apply wpList_loadRow 33 33; exact rfl; exact rfl; exact rfl; (first | assumption | (refine heap_under ?_; assumption) | (exact heap_s0 _ _) | (exact heap_s1 _ _ _) | (exact heap_under (heap_s0 _ _))); exact undTx; exact rfl; exact infTx)
        | fail)
      generalize wr.alloc (.cells #[.int .i32 hj.n.ty, .string hj.n.path, slV hj.d, slV hj.a, .int .i64 hj.n.ow, .int .i32 hj.n.ve, .int .i32 hj.n.cr, .bool hj.n.qh, .int .i64 hj.n.qc, .int .i64 hj.n.qb, .int .i64 hj.n.si, .int .i32 hj.n.st, slV hj.i, slV hj.p, .int .i32 hj.n.co, slV hj.s] 33) = w5 at *
      clear y6
      go_wp2_with (first
        | (apply wpList_loadRow 33 33; exact rfl; exact rfl; exact rfl; (first | assumption | (refine heap_under ?_; assumption) | (exact heap_s0 _ _) | (exact heap_s1 _ _ _) | (exact heap_under (heap_s0 _ _))); exact undTx; exact rfl; exact infTx)
        | fail)
      refine (HCK.out w5 (HBR.out.trans (HB5.out.mono HBR.out.size))).mono ?_
      rintro e w6 ⟨⟨h6, rfl, ht6⟩, hb6⟩
      have HB6 := Lib.hid (HB5.out.trans (hb6.mono HB5.out.size))
      have HT6 := Lib.hid (TrAt.fr kTxOk (R' := fun b => wr.heap.size ≤ b ∧ RR w6 wc.heap.size b) ht6 (Fr.refl [] w6) (fun b hlt h => ⟨by simp, Nat.le_trans HB5.out.size (HGE.out _ _ _ h), HK.out.fr hlt h (Fr.refl [] w6) (by simp) (Nat.le_trans HBR.out.size HB5.out.size)⟩))
      clear ht6 hb6 g5
      obtain ⟨Hs, hrow, hHl, hHt⟩ := HLR.out.r
      have hb7 : Below w6.heap.size w6 (w6.alloc (.cells (encTx h6).toArray 33)) := (Below.refl _ w6).alloc (Nat.le_refl _) _
      have HB7 := Lib.hid hb7
      have HX7 := Lib.hid (show (w6.alloc (.cells (encTx h6).toArray 33)).rangeAt w6.heap.size 0 (encTx h6) from rangeAt_heapC (pre := []) (mid := encTx h6) (post := []) (heap_s0 w6 _) (by simp) rfl)
      have HRW := Lib.hid hrow; have HHL := Lib.hid hHl; have HHT := Lib.hid hHt
      have HOW := Lib.hid (own_later hrow (HB6.out.trans (hb7.mono HB6.out.size)))
      have HSZ := Lib.hid (show wc.heap.size ≤ (w6.alloc (.cells (encTx h6).toArray 33)).heap.size from Nat.le_trans HBR.out.size (Nat.le_trans HB6.out.size hb7.size))
      clear hrow hHl hHt hb7
      go_wp2_with (first
        | (at_builtin; refine wpList_appT elemBTx HOW.out HHL.out h6 w6.heap.size rfl _ _ rfl ?hx9 ?hy9 HX7.out HMM.out HSZ.out ?hk9)
        | fail)
      (try case hx9 => rfl)
      (try case hy9 => rfl)
      case hk9 =>
      intro A9 c9 w9 hv9 hon9
      have HRN := Lib.hid (LsR.step HK.out HB6.out HT6.out HB7.out HRW.out HHL.out HHT.out (by rw [List.flatMap_append, List.flatMap_singleton]; exact hv9) hon9)
      have HBN := Lib.hid (HBR.out.trans (((HB6.out.trans (HB7.out.mono HB6.out.size)).mono HBR.out.size).trans (OnT.bel hon9 HOW.out HSZ.out)))
      clear hv9 hon9
      go_wp2_with fail
      go_roundw
      case rel =>
        refine ⟨k + 1, by go_num, by omega, ⟨HBN.out, A9, c9, ?_, ?_⟩⟩
        · rw [HNX.out, List.length_append]; rfl
        · rw [HNX.out]; exact HRN.out
      case measure => simp [RowKit.intOf]; omega
  · obtain rfl : k = n := by omega
    have hki : ¬ ((k : Int) < (k : Int)) := by omega
    have HFIN := Lib.hid (show stK (stepsL d.t) k = stepsD d by rw [HV.out, ← HLL.out, stK_all])
    rw [HFIN.out] at HLR
    have HF2 := Lib.hid (HLR.out.mono HK.out HBX.out.size)
    have HF3 := Lib.hid (HBX.out.trans (HBR.out.mono HBX.out.size))
    rw [HFIN.out]
    clear HLR
    go_wp2_with fail
    go_ret
    exact ⟨⟨A, c, rfl, HF2.out⟩, HF3.out⟩
/-- with the copies in blocks made behind -/
abbrev geK : World → Nat → Nat → Prop := fun _ B b => B ≤ b
theorem steps_any (h : DlH) (d : DlT) (w : World) (R : Nat → Prop) (hd : DlAt w R h d) (hE : Env w) (hsm : DlSm 1048576 d) : Calls Tryz.prog 23 #[dlV h] w (StepsP geK (stepsD d) w) :=
  steps13_any (RR := geK) kGe (fun _ _ _ h => h) (fun t h w R ht hok => cloned_any t h w R ht hok) h d w R hd hE hsm
end Go.Proofs.YthpjneobmmpbnaaGreatDoor
namespace Go.Proofs.YthpjneobmmpbnaaGreatDoor
open Go.RowKit Go.MapKept
open Classical in
/-- what the switch over types finds -/
noncomputable def swR (z : Int) (v : TxF) : Bool :=
  if v.n.ty = 120 then (!v.n.qh || decide (v.n.qc < -1) || decide (v.n.qb < -1)) else if v.n.ty = -10 then (decide (v.n.si ≠ 0) || !decide (rightS (z, v.n.st, v.ids))) else if v.n.ty = -1 then decide (0 ≤ v.n.co) else false
noncomputable def oddR (z : Int) (v : TxF) : Bool := v.acl.any (fun a => !utf8B a.2.1 || !utf8B a.2.2) || fallB v.paths || swR z v
theorem valid_u8 (s : ByteArray) : validFrom s 0 = utf8B s := by unfold validFrom utf8B; rw [List.drop_zero]
theorem fall_nil (v : TxF) (h : fallB v.paths = true) : v.paths ≠ [] := by
  intro e
  rw [e] at h
  revert h
  decide
theorem odd_ref (z : Int) (v : TxF) (k : Nat) : (spareB v k || oddR z v) = oddB z v k := by
  unfold oddB oddR swR
  cases ha : v.acl.any (fun a => !utf8B a.2.1 || !utf8B a.2.2) with
  | true => simp
  | false =>
    rw [Bool.false_or, Bool.false_or]
    cases hs : spareB v k with
    | true => simp
    | false =>
      rw [Bool.false_or, Bool.false_or]
      by_cases h11 : v.n.ty = -11
      · rw [if_pos h11, if_neg (by omega), if_neg (by omega), if_neg (by omega), Bool.or_false]
      · rw [if_neg h11]
        have hf : fallB v.paths = false := by
          cases hf : fallB v.paths with
          | false => rfl
          | true =>
            have hp := fall_nil v hf
            have : spareB v k = true := by
              unfold spareB
              rw [decide_eq_false h11, decide_eq_true hp]
              simp
            rw [this] at hs; cases hs
        rw [hf, Bool.false_or]
theorem refOrder_q (a b : ByteArray) (ha : a.size < 2147483648) (hb : b.size < 2147483648) (w : World) (q x : Nat) : Calls Tryz.prog 108 #[.string a, .string b] (w.drewN (q + x)) fun e w' => e = .returned (.int .i64 (cmpB a b)) ∧ ∃ n, w' = w.drewN (q + n) :=
  (refOrder_any a b ha hb (w.drewN (q + x))).mono fun _ _ h => ⟨h.1, by
    obtain ⟨_, n, e⟩ := h
    exact ⟨x + n, by rw [e, World.drewN_drewN, Nat.add_assoc]⟩⟩
set_option maxRecDepth 100000 in
set_option maxHeartbeats 8000000 in
theorem refOdd_any (z : Int) (h : TxH) (v : TxF) (w : World) (R : Nat → Prop) (hv : locTx w R h v) (hsm : TxSm 1048576 v h.s.2.1) (hz : in64 z) :
    Calls Tryz.prog 99 #[txV h, .int .i64 z] w (RetB w (oddR z v)) := by
  have hn := hv.1
  have hal := hv.2.2.1.len; have hpl := hv.2.2.2.2.len; have hil := hv.2.2.2.1.len
  have ha9 : h.a.2.1 ≤ 1048576 := by have := hsm.2.2.2.1; omega
  have hp9 : h.p.2.1 ≤ 1048576 := by have := hsm.2.2.2.2.2.1; omega
  have HAS := Lib.hid (fun j (hj : j < h.a.2.1) => (show v.acl[j]!.2.1.size ≤ 140737488355328 ∧ v.acl[j]!.2.2.size ≤ 140737488355328 by have := hsm.2.2.2.2.2.2.2.1 j (by omega); omega))
  have HPS := Lib.hid (fun j (hj : j < h.p.2.1) => (show v.paths[j]!.size < 2147483648 by have := hsm.2.2.2.2.2.2.2.2.2 j (by omega); omega))
  have HSS := Lib.hid (fun (V : World) (hV : Sl V V.heap.size encId 2 h.i.1 h.i.2.1 v.ids) => (show SesOk V (z, h.n.st, h.i) v.ids 1048576 from ⟨hz, by have := hsm.1.2.2.2.2.2.2.2.1; rw [hn] at this; exact this, hV, hv.2.2.2.1.hd, by have := hsm.2.2.2.2.1; show h.i.2.1 ≤ _; omega, fun j hj => by have := hsm.2.2.2.2.2.2.2.2.1 j (by show j < _; have : j < h.i.2.1 := hj; omega); exact this⟩))
  have HSW := Lib.hid (show swR z v = if h.n.ty = 120 then (!h.n.qh || decide (h.n.qc < -1) || decide (h.n.qb < -1)) else if h.n.ty = -10 then (decide (h.n.si ≠ 0) || !(@decide (rightS (z, h.n.st, v.ids)) (Classical.propDecidable _))) else if h.n.ty = -1 then decide (0 ≤ h.n.co) else false by unfold swR; rw [hn])
  have HD := Lib.hid (show oddR z v = (v.acl.any (fun a => !utf8B a.2.1 || !utf8B a.2.2) || fallB v.paths || swR z v) from rfl)
  have HAL := Lib.hid hal; have HPL := Lib.hid hpl
  clear hn hsm hz hal hpl hil
  have hb0 : Below w.heap.size w (w.alloc (.cells #[.int .i32 h.n.ty, .string h.n.path, slV h.d, slV h.a, .int .i64 h.n.ow, .int .i32 h.n.ve, .int .i32 h.n.cr, .bool h.n.qh, .int .i64 h.n.qc, .int .i64 h.n.qb, .int .i64 h.n.si, .int .i32 h.n.st, slV h.i, slV h.p, .int .i32 h.n.co, slV h.s] 33)) := (Below.refl _ w).alloc (Nat.le_refl _) _
  have HG := Lib.hid (heap_s0 w (.cells #[.int .i32 h.n.ty, .string h.n.path, slV h.d, slV h.a, .int .i64 h.n.ow, .int .i32 h.n.ve, .int .i32 h.n.cr, .bool h.n.qh, .int .i64 h.n.qc, .int .i64 h.n.qb, .int .i64 h.n.si, .int .i32 h.n.st, slV h.i, slV h.p, .int .i32 h.n.co, slV h.s] 33))
  have HZ := Lib.hid (sz1 w (.cells #[.int .i32 h.n.ty, .string h.n.path, slV h.d, slV h.a, .int .i64 h.n.ow, .int .i32 h.n.ve, .int .i32 h.n.cr, .bool h.n.qh, .int .i64 h.n.qc, .int .i64 h.n.qb, .int .i64 h.n.si, .int .i32 h.n.st, slV h.i, slV h.p, .int .i32 h.n.co, slV h.s] 33))
  have HL := Lib.hid (hv.down hb0)
  have HB := Lib.hid hb0
  clear hb0
  unfold txV
  go_enter Tryz.func99, Tryz.ntmps99
  go_upto_region 1 with fail
  generalize w.alloc (.cells #[.int .i32 h.n.ty, .string h.n.path, slV h.d, slV h.a, .int .i64 h.n.ow, .int .i32 h.n.ve, .int .i32 h.n.cr, .bool h.n.qh, .int .i64 h.n.qc, .int .i64 h.n.qb, .int .i64 h.n.si, .int .i32 h.n.st, slV h.i, slV h.p, .int .i32 h.n.co, slV h.s] 33) = W at *
  have HC0 := Lib.hid (show ∀ V : World, Below W.heap.size W V → V.cell? ⟨w.heap.size, 0, none⟩ = some (.int .i32 h.n.ty) from fun V hV => by rw [cellH ((hV.block _ (by have := HZ.out; omega)).trans HG.out)]; rfl)
  have HC3 := Lib.hid (show ∀ V : World, Below W.heap.size W V → V.cell? ⟨w.heap.size, 3, none⟩ = some (slV h.a) from fun V hV => by rw [cellH ((hV.block _ (by have := HZ.out; omega)).trans HG.out)]; rfl)
  have HC7 := Lib.hid (show ∀ V : World, Below W.heap.size W V → V.cell? ⟨w.heap.size, 7, none⟩ = some (.bool h.n.qh) from fun V hV => by rw [cellH ((hV.block _ (by have := HZ.out; omega)).trans HG.out)]; rfl)
  have HC8 := Lib.hid (show ∀ V : World, Below W.heap.size W V → V.cell? ⟨w.heap.size, 8, none⟩ = some (.int .i64 h.n.qc) from fun V hV => by rw [cellH ((hV.block _ (by have := HZ.out; omega)).trans HG.out)]; rfl)
  have HC9 := Lib.hid (show ∀ V : World, Below W.heap.size W V → V.cell? ⟨w.heap.size, 9, none⟩ = some (.int .i64 h.n.qb) from fun V hV => by rw [cellH ((hV.block _ (by have := HZ.out; omega)).trans HG.out)]; rfl)
  have HC10 := Lib.hid (show ∀ V : World, Below W.heap.size W V → V.cell? ⟨w.heap.size, 10, none⟩ = some (.int .i64 h.n.si) from fun V hV => by rw [cellH ((hV.block _ (by have := HZ.out; omega)).trans HG.out)]; rfl)
  have HC11 := Lib.hid (show ∀ V : World, Below W.heap.size W V → V.cell? ⟨w.heap.size, 11, none⟩ = some (.int .i32 h.n.st) from fun V hV => by rw [cellH ((hV.block _ (by have := HZ.out; omega)).trans HG.out)]; rfl)
  have HC12 := Lib.hid (show ∀ V : World, Below W.heap.size W V → V.cell? ⟨w.heap.size, 12, none⟩ = some (slV h.i) from fun V hV => by rw [cellH ((hV.block _ (by have := HZ.out; omega)).trans HG.out)]; rfl)
  have HC13 := Lib.hid (show ∀ V : World, Below W.heap.size W V → V.cell? ⟨w.heap.size, 13, none⟩ = some (slV h.p) from fun V hV => by rw [cellH ((hV.block _ (by have := HZ.out; omega)).trans HG.out)]; rfl)
  have HC14 := Lib.hid (show ∀ V : World, Below W.heap.size W V → V.cell? ⟨w.heap.size, 14, none⟩ = some (.int .i32 h.n.co) from fun V hV => by rw [cellH ((hV.block _ (by have := HZ.out; omega)).trans HG.out)]; rfl)
  generalize (Value.agg #[.int .i32 h.n.ty, .string h.n.path, slV h.d, slV h.a, .int .i64 h.n.ow, .int .i32 h.n.ve, .int .i32 h.n.cr, .bool h.n.qh, .int .i64 h.n.qc, .int .i64 h.n.qb, .int .i64 h.n.si, .int .i32 h.n.st, slV h.i, slV h.p, .int .i32 h.n.co, slV h.s]) = arg0 at *
  have x3 := HC3.out W (Below.refl _ _)
  have HSA := Lib.hid (HL.out.2.2.1.sl (fun _ => by simp [encAcl]))
  have HSI := Lib.hid (HL.out.2.2.2.1.sl (fun _ => by simp [encId]))
  have HSP := Lib.hid (HL.out.2.2.2.2.sl (fun _ => by simp [encStr]))
  go_wp2_with fail
  go_loop [5] (fun i => ∃ j : Nat, i = .int .i64 ↑j ∧ j ≤ h.a.2.1 ∧ ∀ k, k < j → (!utf8B v.acl[k]!.2.1 || !utf8B v.acl[k]!.2.2) = false) (fun i => h.a.2.1 - (RowKit.intOf i).toNat)
  case atStart => exact ⟨0, rfl, Nat.zero_le _, fun k hk => absurd hk (by omega)⟩
  case round =>
  obtain ⟨j, rfl, hj, hno⟩ := hrel
  have HNO := Lib.hid hno; clear hno
  by_cases hlt : j < h.a.2.1
  · obtain ⟨b, off, eb, hbl, hcb⟩ := HSA.out.cells hlt
    have c1 : W.cell? ⟨b, off + j * 3 + 1, none⟩ = some (.string v.acl[j]!.2.1) := by have := hcb 1 _ rfl; simpa using this
    have c2 : W.cell? ⟨b, off + j * 3 + 2, none⟩ = some (.string v.acl[j]!.2.2) := by have := hcb 2 _ rfl; simpa using this
    have xs : W.cell? ⟨w.heap.size, 3, none⟩ = some (.slice (some ⟨b, off, none⟩) h.a.2.1 h.a.2.2) := by rw [HC3.out W (Below.refl _ _), ← eb]
    have hU1 := refU8_any v.acl[j]!.2.1 (HAS.out j hlt).1 W
    have hU2 := refU8_any v.acl[j]!.2.2 (HAS.out j hlt).2 W
    rw [valid_u8] at hU1 hU2
    have HBA := Lib.hid (fun (e : (!utf8B v.acl[j]!.2.1 || !utf8B v.acl[j]!.2.2) = true) => (show oddR z v = true by
      rw [HD.out, show v.acl.any (fun a => !utf8B a.2.1 || !utf8B a.2.2) = true from by
        rw [List.any_eq_true]
        exact ⟨_, List.getElem_mem (by rw [HAL.out]; exact hlt), by rw [← getElem!_pos v.acl j (by rw [HAL.out]; exact hlt)]; exact e⟩]
      rfl))
    have hji : (j : Int) < (h.a.2.1 : Int) := by omega
    have hj0 : (0 : Int) ≤ (j : Int) := by omega
    clear hcb hbl eb x3
    have HSTEP := Lib.hid (fun (e : (!utf8B v.acl[j]!.2.1 || !utf8B v.acl[j]!.2.2) = false) => (show ∀ k, k < j + 1 → (!utf8B v.acl[k]!.2.1 || !utf8B v.acl[k]!.2.2) = false from fun k hk => by
      rcases Nat.lt_succ_iff_lt_or_eq.1 hk with h3 | rfl
      · exact HNO.out k h3
      · exact e))
    generalize v.acl[j]!.2.1 = s1 at *
    generalize v.acl[j]!.2.2 = s2 at *
    cases h1 : utf8B s1 with
    | false =>
      rw [h1] at hU1
      have HN := Lib.hid (HBA.out (by rw [h1]; rfl))
      have HU1 := Lib.hid hU1; clear hU1 hU2 h1 HBA HSTEP
      go_wp2_with fail
      refine HU1.out.mono ?_
      rintro e W ⟨rfl, rfl⟩
      go_wp2_with fail
      go_ret
      exact RetB.mk HB.out HN.out.symm
    | true =>
      rw [h1] at hU1
      cases h2 : utf8B s2 with
      | false =>
        rw [h2] at hU2
        have HN := Lib.hid (HBA.out (by rw [h1, h2]; rfl))
        have HU1 := Lib.hid hU1; have HU2 := Lib.hid hU2; clear hU1 hU2 h1 h2 HBA HSTEP
        go_wp2_with fail
        refine HU1.out.mono ?_
        rintro e W ⟨rfl, rfl⟩
        go_wp2_with fail
        refine HU2.out.mono ?_
        rintro e W ⟨rfl, rfl⟩
        go_wp2_with fail
        go_ret
        exact RetB.mk HB.out HN.out.symm
      | true =>
        rw [h2] at hU2
        have HN := Lib.hid (HSTEP.out (by rw [h1, h2]; rfl))
        have HU1 := Lib.hid hU1; have HU2 := Lib.hid hU2; clear hU1 hU2 h1 h2 HBA HSTEP
        go_wp2_with fail
        refine HU1.out.mono ?_
        rintro e W ⟨rfl, rfl⟩
        go_wp2_with fail
        refine HU2.out.mono ?_
        rintro e W ⟨rfl, rfl⟩
        go_wp2_with fail
        go_round
        case rel => exact ⟨j + 1, by go_num, by omega, HN.out⟩
        case measure => simp [RowKit.intOf]; omega
  obtain rfl : j = h.a.2.1 := by omega
  have HD2 := Lib.hid (show oddR z v = (fallB v.paths || swR z v) by
    rw [HD.out, show v.acl.any (fun a => !utf8B a.2.1 || !utf8B a.2.2) = false from by
      rw [List.any_eq_false]
      intro x hx
      obtain ⟨k, hk, rfl⟩ := List.getElem_of_mem hx
      have := HNO.out k (by rw [← HAL.out]; exact hk)
      rw [getElem!_pos v.acl k hk] at this
      rw [this]; decide]
    rfl)
  clear HD HNO hlt
  go_wp2_with fail
  go_loopw [6] (fun i wr => ∃ j q : Nat, i = .int .i64 ↑(j + 1) ∧ (j = 0 ∨ j < h.p.2.1) ∧ (∀ k, k < j → cmpB v.paths[k]! v.paths[k + 1]! < 0) ∧ wr = W.drewN q) (fun i _ => h.p.2.1 - (RowKit.intOf i).toNat)
  case atStart => exact ⟨0, 0, rfl, .inl rfl, fun k hk => absurd hk (by omega), rfl⟩
  case round =>
  obtain ⟨j, q, rfl, hj, hno, rfl⟩ := hrel
  have HNO := Lib.hid hno; clear hno
  clear x3
  have x13 : W.cell? ⟨w.heap.size, 13, none⟩ = some (slV h.p) := HC13.out W (Below.refl _ _)
  by_cases hlt : j + 1 < h.p.2.1
  · obtain ⟨b, off, eb, hbl, hcb⟩ := HSP.out.cells hlt
    have hc2 := HSP.out
    have hc0 : ∀ i u, (encStr v.paths[j]!)[i]? = some u → W.cell? ⟨b, off + j * 1 + i, none⟩ = some u := by
      obtain ⟨b', off', eb', _, hcb'⟩ := HSP.out.cells (show j < h.p.2.1 by omega)
      rw [eb] at eb'; injection eb' with e1; injection e1 with e2 e3
      subst e2 e3
      exact hcb'
    have c1 : W.cell? ⟨b, off + j, none⟩ = some (.string v.paths[j]!) := by have := hc0 0 _ rfl; simpa using this
    have c2 : W.cell? ⟨b, off + (j + 1), none⟩ = some (.string v.paths[j + 1]!) := by have := hcb 0 _ rfl; simpa using this
    have xs : W.cell? ⟨w.heap.size, 13, none⟩ = some (.slice (some ⟨b, off, none⟩) h.p.2.1 h.p.2.2) := by rw [x13, ← eb]
    have HO := Lib.hid (fun x => refOrder_q v.paths[j]! v.paths[j + 1]! (HPS.out j (by omega)) (HPS.out (j + 1) hlt) W q x)
    have HFA := Lib.hid (fun (e : 0 ≤ cmpB v.paths[j]! v.paths[j + 1]!) => (show oddR z v = true by
      rw [HD2.out, show fallB v.paths = true from by
        unfold fallB
        rw [List.any_eq_true]
        exact ⟨j, List.mem_range.2 (by rw [HPL.out]; omega), decide_eq_true e⟩]
      rfl))
    have HSTEP := Lib.hid (fun (e : cmpB v.paths[j]! v.paths[j + 1]! < 0) => (show ∀ k, k < j + 1 → cmpB v.paths[k]! v.paths[k + 1]! < 0 from fun k hk => by
      rcases Nat.lt_succ_iff_lt_or_eq.1 hk with h3 | rfl
      · exact HNO.out k h3
      · exact e))
    have hw1 : IntKind.i64.wrap (j : Int) = (j : Int) := by rw [IntKind.wrap_i64]; omega
    have hw2 : (0 : Int) ≤ (j : Int) + 1 ∧ (j : Int) + 1 < (h.p.2.1 : Int) := by omega
    have hw3 : ((j : Int) + 1).toNat = j + 1 := by omega
    have hw4 : (0 : Int) ≤ (j : Int) ∧ (j : Int) < (h.p.2.1 : Int) := by omega
    have hji : (j : Int) < (h.p.2.1 : Int) := by omega
    have hj0 : (0 : Int) ≤ (j : Int) := by omega
    clear hcb hc0 hc2 hbl eb x13 hj
    generalize v.paths[j]! = p1 at *
    generalize v.paths[j + 1]! = p2 at *
    generalize cmpB p1 p2 = cc at *
    by_cases hc : 0 ≤ cc
    · have d1 : decide (0 ≤ cc) = true := decide_eq_true hc
      have HN := Lib.hid (HFA.out hc)
      clear hc HFA HSTEP
      go_wp2_with fail
      go_quiet (exact HO.out _)
      go_wp2_with fail
      go_ret
      exact RetB.mk (drewN_below (drewN_below HB.out _) _) HN.out.symm
    · have d1 : decide (0 ≤ cc) = false := decide_eq_false hc
      have HN := Lib.hid (HSTEP.out (by omega))
      clear hc HFA HSTEP
      go_wp2_with fail
      go_quiet (exact HO.out _)
      go_wp2_with fail
      go_roundw
      case rel => exact ⟨j + 1, _, by go_num, .inr (by omega), HN.out, by (try simp only [World.drewN_drewN]); rfl⟩
      case measure => simp [RowKit.intOf]; omega
  have HD3 := Lib.hid (show oddR z v = swR z v by
    rw [HD2.out, show fallB v.paths = false from by
      unfold fallB
      rw [List.any_eq_false]
      intro k hk
      have hk' := List.mem_range.1 hk
      rw [HPL.out] at hk'
      have := HNO.out k (by omega)
      show ¬ decide (0 ≤ cmpB v.paths[k]! v.paths[k + 1]!) = true
      rw [decide_eq_true_eq]; omega]
    rfl)
  clear HD2 HNO
  have HBQ := Lib.hid (drewN_self W q)
  have y0 := HC0.out _ HBQ.out; have y7 := HC7.out _ HBQ.out; have y8 := HC8.out _ HBQ.out; have y9 := HC9.out _ HBQ.out; have y10 := HC10.out _ HBQ.out; have y11 := HC11.out _ HBQ.out; have y12 := HC12.out _ HBQ.out; have y13 := HC13.out _ HBQ.out; have y14 := HC14.out _ HBQ.out
  have HB2 := Lib.hid (HB.out.trans (HBQ.out.mono HB.out.size))
  have HSI2 := Lib.hid (HSI.out.belowMore HBQ.out HBQ.out.size)
  clear x13 HBQ HB HSI HSP HSA HG HZ HL
  clear HC0 HC3 HC7 HC8 HC9 HC10 HC11 HC12 HC13 HC14
  generalize W.drewN q = V at *
  have hlt2 : decide (j + 1 < h.p.2.1) = false := decide_eq_false hlt
  have hjb : (j : Int) ≤ 1048576 := by rcases hj with e | e <;> omega
  by_cases h120 : h.n.ty = 120
  · rw [if_pos h120] at HSW
    have t1 : (h.n.ty == 120) = true := by rw [h120]; rfl
    clear h120
    cases hqh : h.n.qh with
    | false =>
      rw [hqh] at y7
      have HN := Lib.hid (show oddR z v = true by rw [HD3.out, HSW.out, hqh]; rfl)
      clear hqh
      go_wp2_with fail
      go_ret
      exact RetB.mk HB2.out HN.out.symm
    | true =>
      rw [hqh] at y7
      by_cases hqc : h.n.qc < -1
      · have d1 : decide (h.n.qc < -1) = true := decide_eq_true hqc
        have HN := Lib.hid (show oddR z v = true by rw [HD3.out, HSW.out, hqh, d1]; rfl)
        clear hqh hqc
        go_wp2_with fail
        go_ret
        exact RetB.mk HB2.out HN.out.symm
      · have d1 : decide (h.n.qc < -1) = false := decide_eq_false hqc
        have HN := Lib.hid (show oddR z v = decide (h.n.qb < -1) by rw [HD3.out, HSW.out, hqh, d1]; rfl)
        clear hqh hqc
        go_wp2_with fail
        go_ret
        exact RetB.mk HB2.out HN.out.symm
  rw [if_neg h120] at HSW
  have t1 : (h.n.ty == 120) = false := beq_eq_false_iff_ne.2 h120
  by_cases h10 : h.n.ty = -10
  · rw [if_pos h10] at HSW
    have t2 : (h.n.ty == -10) = true := by rw [h10]; rfl
    clear h10 h120
    have hbs : Below V.heap.size V (V.alloc (.cells #[.int .i64 z, .int .i32 h.n.st, slV h.i] 28)) := (Below.refl _ V).alloc (Nat.le_refl _) _
    have y10' := keep1 y10 hbs
    by_cases hsi : h.n.si ≠ 0
    · have d1 : (h.n.si != 0) = true := bne_iff_ne.2 hsi
      have HN := Lib.hid (show oddR z v = true by rw [HD3.out, HSW.out, decide_eq_true hsi]; rfl)
      have HB4 := Lib.hid (HB2.out.trans ((show Below V.heap.size V (V.alloc (.cells #[.int .i64 z, .int .i32 h.n.st, slV h.i] 28)) from (Below.refl _ V).alloc (Nat.le_refl _) _).mono HB2.out.size))
      clear hsi
      go_wp2_with fail
      go_ret
      exact RetB.mk HB4.out HN.out.symm
    · have d1 : (h.n.si != 0) = false := by simpa using hsi
      have HN := Lib.hid (show oddR z v = !(@decide (rightS (z, h.n.st, v.ids)) (Classical.propDecidable _)) by rw [HD3.out, HSW.out, decide_eq_false hsi]; rfl)
      have HB4 := Lib.hid (HB2.out.trans (hbs.mono HB2.out.size))
      have HR := Lib.hid (refRightS_any z h.n.st h.i.1 h.i.2.1 h.i.2.2 v.ids _ (HSS.out _ (HSI2.out.belowMore hbs hbs.size)))
      clear hsi hbs
      go_wp2_with fail
      refine HR.out.mono ?_
      rintro e w5 ⟨rfl, hb5⟩
      have HB5 := Lib.hid (HB4.out.trans (hb5.mono HB4.out.size)); clear hb5
      go_wp2_with fail
      go_ret
      refine RetB.mk HB5.out (Eq.trans ?_ HN.out.symm)
      by_cases hr : rightS (z, h.n.st, v.ids)
      · simp [hr]
      · simp [hr]
  rw [if_neg h10] at HSW
  have t2 : (h.n.ty == -10) = false := beq_eq_false_iff_ne.2 h10
  by_cases h1 : h.n.ty = -1
  · rw [if_pos h1] at HSW
    have t3 : (h.n.ty == -1) = true := by rw [h1]; rfl
    have HN := Lib.hid (show oddR z v = decide (0 ≤ h.n.co) by rw [HD3.out, HSW.out])
    clear h1 h10 h120
    go_wp2_with fail
    go_ret
    exact RetB.mk HB2.out HN.out.symm
  · rw [if_neg h1] at HSW
    have t3 : (h.n.ty == -1) = false := beq_eq_false_iff_ne.2 h1
    have HN := Lib.hid (show oddR z v = false by rw [HD3.out, HSW.out])
    clear h1 h10 h120
    go_wp2_with fail
    go_ret
    exact RetB.mk HB2.out HN.out.symm
end Go.Proofs.YthpjneobmmpbnaaGreatDoor
namespace Go.Proofs.YthpjneobmmpbnaaGreatDoor
open Go.RowKit Go.MapKept
/-- where the last '/' of the first k bytes stands; -1: nowhere -/
def lastF (s : ByteArray) : Nat → Int
  | 0 => -1
  | k + 1 => if s.get! k = 47 then (k : Int) else lastF s k
theorem lastF_ge (s : ByteArray) : ∀ k, -1 ≤ lastF s k ∧ lastF s k < k
  | 0 => ⟨by show (-1 : Int) ≤ -1; decide, by show (-1 : Int) < 0; decide⟩
  | k + 1 => by
    have := lastF_ge s k
    unfold lastF
    split
    · constructor <;> omega
    · constructor <;> omega
theorem lastF_pos (s : ByteArray) (h0 : s.get! 0 = 47) : ∀ k, 0 < k → 0 ≤ lastF s k
  | 0, h => absurd h (by decide)
  | 1, _ => by unfold lastF; rw [if_pos h0]; decide
  | k + 2, _ => by
    have := lastF_pos s h0 (k + 1) (by omega)
    unfold lastF
    split
    · omega
    · exact this
/-- a path without its last part -/
def parP (s : ByteArray) : ByteArray := s.extract 0 (max (lastF s s.size) 1).toNat
theorem lastF_step (s : ByteArray) (k : Nat) (hk : k < s.size) : lastF s (k + 1) = if s[k] = 47 then (k : Int) else lastF s k := by
  rw [show lastF s (k + 1) = if s.get! k = 47 then (k : Int) else lastF s k from rfl, get_eq s k hk]
set_option maxHeartbeats 4000000 in
set_option maxRecDepth 100000 in
theorem lastBS_any (s : ByteArray) (hs : s.size < 2147483648) (w : World) : Calls Tryz.prog 132 #[.string s, .int .u8 47] w (fun e w' => e = .returned (.int .i64 (lastF s s.size)) ∧ w' = w) := by
  go_enter Tryz.func132, Tryz.ntmps132
  go_wp2_with fail
  go_loop [5] (fun i => ∃ k : Nat, i = .int .i64 (↑k - 1) ∧ k ≤ s.size ∧ lastF s k = lastF s s.size) (fun i => (RowKit.intOf i + 1).toNat)
  case atStart => exact ⟨s.size, by go_num, Nat.le_refl _, rfl⟩
  case round =>
    obtain ⟨k, rfl, hk, hP⟩ := hrel
    have HP := Lib.hid hP; clear hP
    cases k with
    | zero =>
      have HE := Lib.hid (show lastF s s.size = -1 from HP.out.symm)
      rw [show (((0 : Nat) : Int) - 1) = -1 by rfl]
      go_wp2_with fail
      go_ret
      exact ⟨by rw [HE.out]; rfl, rfl⟩
    | succ p =>
      have hp : p < s.size := hk
      have hb := u8_eq s[p]
      have hstep := lastF_step s p hp
      rw [show ((p + 1 : Nat) : Int) - 1 = (p : Int) by omega]
      by_cases h4 : s[p] = 47
      · have hb1 : ((s[p].toNat : Int) == 47) = true := by rw [h4]; rfl
        have HE := Lib.hid (show lastF s s.size = (p : Int) by rw [← HP.out, hstep, if_pos h4])
        clear hb hstep h4
        go_wp2_with fail
        go_ret
        exact ⟨by rw [HE.out]; rfl, rfl⟩
      · have hb1 : ((s[p].toNat : Int) == 47) = false := by
          rw [decide_eq_false h4] at hb
          exact hb
        have HE := Lib.hid (show lastF s p = lastF s s.size by rw [← HP.out, hstep, if_neg h4])
        clear hb hstep h4
        go_wp2_with fail
        go_round
        case rel => exact ⟨p, by go_num, by omega, HE.out⟩
        case measure => simp [RowKit.intOf] <;> omega
set_option maxHeartbeats 4000000 in
set_option maxRecDepth 100000 in
theorem lastB_any (s : ByteArray) (hs : s.size < 2147483648) (w : World) : Calls Tryz.prog 72 #[.string s, .int .u8 47] w (fun e w' => e = .returned (.int .i64 (lastF s s.size)) ∧ w' = w) := by
  go_enter Tryz.func72, Tryz.ntmps72
  go_wp2_with fail
  refine (lastBS_any s hs w).mono ?_
  rintro e w ⟨rfl, rfl⟩
  go_wp2_with fail
  go_ret
  exact ⟨rfl, rfl⟩
set_option maxHeartbeats 4000000 in
set_option maxRecDepth 100000 in
theorem refLast_any (s : ByteArray) (hs : s.size < 2147483648) (h0 : s.get! 0 = 47) (hp : 0 < s.size) (w : World) : Calls Tryz.prog 110 #[.string s] w (fun e w' => e = .returned (.int .i64 (lastF s s.size)) ∧ w' = w) := by
  go_enter Tryz.func110, Tryz.ntmps110
  go_wp2_with fail
  go_loop [3] (fun i => ∃ p : Nat, i = .int .i64 ↑p ∧ p < s.size ∧ lastF s (p + 1) = lastF s s.size) (fun i => (RowKit.intOf i + 1).toNat)
  case atStart => exact ⟨s.size - 1, by go_num, by omega, by rw [Nat.sub_add_cancel hp]⟩
  case round =>
    obtain ⟨p, rfl, hk, hP⟩ := hrel
    have HP := Lib.hid hP; clear hP
    have hb := u8_eq s[p]
    have hstep := lastF_step s p hk
    by_cases h4 : s[p] = 47
    · have hb1 : ((s[p].toNat : Int) != 47) = false := by rw [h4]; rfl
      have HE := Lib.hid (show lastF s s.size = (p : Int) by rw [← HP.out, hstep, if_pos h4])
      clear hb hstep h4
      go_wp2_with fail
      go_ret
      exact ⟨by rw [HE.out]; rfl, rfl⟩
    · have hb1 : ((s[p].toNat : Int) != 47) = true := by
        rw [decide_eq_false h4] at hb
        simp only [bne, hb, Bool.not_false]
      have HE := Lib.hid (show lastF s p = lastF s s.size by rw [← HP.out, hstep, if_neg h4])
      have hp0 : 0 < p := by
        rcases Nat.eq_zero_or_pos p with rfl | h
        · exact absurd ((get_eq s 0 hk).symm.trans h0) h4
        · exact h
      clear hb hstep h4
      go_wp2_with fail
      go_round
      case rel => exact ⟨p - 1, by go_num, by omega, by rw [Nat.sub_add_cancel hp0]; exact HE.out⟩
      case measure => simp [RowKit.intOf] <;> omega
/-- the parent, and the error -/
def ParP (s : ByteArray) (w : World) (e : Ending) (w' : World) : Prop := e = .returned (.tuple #[.string (if validP s && !decide (s = sSlash) then parP s else ⟨#[]⟩), .int .i64 (if validP s && !decide (s = sSlash) then 0 else 30)]) ∧ Below w.heap.size w w'
theorem valid_pos {s : ByteArray} (h : validP s = true) : 0 < s.size ∧ s.get! 0 = 47 := by
  unfold validP at h
  simp only [Bool.and_eq_true, decide_eq_true_eq] at h
  exact ⟨by have := h.1.1.1; omega, h.1.2⟩
theorem slash_is (s : ByteArray) : (s.toList == [47]) = decide (s = sSlash) := by
  rw [Lib.toList_data, Bool.eq_iff_iff, beq_iff_eq, decide_eq_true_eq]
  constructor
  · intro h
    apply ByteArray.ext
    apply Array.ext'
    rw [h]; rfl
  · rintro rfl; rfl
set_option maxHeartbeats 4000000 in
set_option maxRecDepth 100000 in
theorem parent_any (s : ByteArray) (hs : s.size < 2147483648) (w : World) (hE : Env w) : Calls Tryz.prog 30 #[.string s] w (ParP s w) := by
  have HVA := Lib.hid (valid_any s hs w hE)
  go_enter Tryz.func30, Tryz.ntmps30
  go_wp2_with fail
  refine HVA.out.mono ?_
  rintro e w1 ⟨rfl, hb⟩
  have HB := Lib.hid hb
  have hsl := slash_is s
  clear hb HVA
  cases hv : validP s with
  | false =>
    have HVF := Lib.hid hv
    clear hv hsl
    go_wp2_with fail
    go_ret2
    exact ⟨by rw [HVF.out]; rfl, HB.out⟩
  | true =>
  have HP := Lib.hid (valid_pos hv)
  have HVT := Lib.hid hv
  clear hv
  cases hq : decide (s = sSlash) with
  | true =>
    rw [hq] at hsl
    have HQ := Lib.hid hq
    clear hq
    go_wp2_with fail
    go_ret2
    exact ⟨by rw [HVT.out, HQ.out]; rfl, HB.out⟩
  | false =>
    rw [hq] at hsl
    have HQ := Lib.hid hq
    clear hq
    go_wp2_with fail
    refine (lastB_any s hs w1).mono ?_
    rintro e w1 ⟨rfl, rfl⟩
    obtain ⟨k, hk⟩ : ∃ k : Nat, Hid (lastF s s.size = (k : Int)) := ⟨(lastF s s.size).toNat, Lib.hid (by have := lastF_pos s HP.out.2 s.size HP.out.1; omega)⟩
    have hks : k < s.size := by have := (lastF_ge s s.size).2; have := hk.out; omega
    have hs0 := HP.out.1
    have HR := Lib.hid (show parP s = s.extract 0 (max k 1) by unfold parP; rw [hk.out, show (max (k : Int) 1).toNat = max k 1 by omega])
    rw [hk.out]
    rcases Nat.eq_zero_or_pos k with rfl | hk1
    · clear hks
      go_wp2_with fail
      go_ret2
      exact ⟨by rw [HVT.out, HQ.out, HR.out]; rfl, HB.out⟩
    · have hmx : max (k : Int) 1 = (k : Int) := by omega
      go_wp2_with fail
      go_ret2
      exact ⟨by rw [HVT.out, HQ.out, HR.out, show max k 1 = k by omega]; rfl, HB.out⟩
theorem slash_ext (s : ByteArray) (h : 0 < s.size) (h0 : s.get! 0 = 47) : s.extract 0 1 = sSlash := by
  apply ByteArray.ext
  apply Array.ext'
  have hd : s.data.toList = s.data.toList.take 1 ++ s.data.toList.drop 1 := (List.take_append_drop 1 _).symm
  have e1 : (s.extract 0 1).data.toList = s.data.toList.take 1 := by simp [ByteArray.data_extract]
  rw [e1]
  have h1 : 0 < s.data.toList.length := by simpa using h
  rw [get_eq s 0 h] at h0
  have h2 : s.data.toList[0] = 47 := by rw [← h0]; rfl
  cases hl : s.data.toList with
  | nil => rw [hl] at h1; simp at h1
  | cons a r => simp only [hl, List.getElem_cons_zero] at h2; subst h2; rfl
set_option maxHeartbeats 4000000 in
set_option maxRecDepth 100000 in
theorem refParent_any (s : ByteArray) (hs : s.size < 2147483648) (w : World) : Calls Tryz.prog 60 #[.string s] w (ParP s w) := by
  have HVA := Lib.hid (refValid_any s hs w)
  go_enter Tryz.func60, Tryz.ntmps60
  go_wp2_with fail
  refine HVA.out.mono ?_
  rintro e w1 ⟨rfl, hb⟩
  have HB := Lib.hid hb
  have hsl := slash_is s
  clear hb HVA
  cases hv : validP s with
  | false =>
    have HVF := Lib.hid hv
    clear hv hsl
    go_wp2_with fail
    go_ret2
    exact ⟨by rw [HVF.out]; rfl, HB.out⟩
  | true =>
  have HP := Lib.hid (valid_pos hv)
  have HVT := Lib.hid hv
  clear hv
  cases hq : decide (s = sSlash) with
  | true =>
    rw [hq] at hsl
    have HQ := Lib.hid hq
    clear hq
    go_wp2_with fail
    go_ret2
    exact ⟨by rw [HVT.out, HQ.out]; rfl, HB.out⟩
  | false =>
    rw [hq] at hsl
    have HQ := Lib.hid hq
    clear hq
    go_wp2_with fail
    refine (refLast_any s hs HP.out.2 HP.out.1 w1).mono ?_
    rintro e w1 ⟨rfl, rfl⟩
    obtain ⟨k, hk⟩ : ∃ k : Nat, Hid (lastF s s.size = (k : Int)) := ⟨(lastF s s.size).toNat, Lib.hid (by have := lastF_pos s HP.out.2 s.size HP.out.1; omega)⟩
    have hks : k < s.size := by have := (lastF_ge s s.size).2; have := hk.out; omega
    have HR := Lib.hid (show parP s = s.extract 0 (max k 1) by unfold parP; rw [hk.out, show (max (k : Int) 1).toNat = max k 1 by omega])
    rw [hk.out]
    rcases Nat.eq_zero_or_pos k with rfl | hk1
    · have HS := Lib.hid (slash_ext s HP.out.1 HP.out.2)
      clear hks
      go_wp2_with fail
      go_ret2
      exact ⟨by rw [HVT.out, HQ.out, HR.out, show max 0 1 = 1 by rfl, HS.out]; rfl, HB.out⟩
    · have b1 : ((k : Int) == 0) = false := beq_eq_false_iff_ne.2 (by omega)
      go_wp2_with fail
      refine (refLast_any s hs HP.out.2 HP.out.1 w1).mono ?_
      rintro e w1 ⟨rfl, rfl⟩
      rw [hk.out]
      go_wp2_with fail
      go_ret2
      exact ⟨by rw [HVT.out, HQ.out, HR.out, show max k 1 = k by omega]; rfl, HB.out⟩
end Go.Proofs.YthpjneobmmpbnaaGreatDoor

/- The law QueueEqual. Condition: bulk at most 2^20. -/
import Derived.Test.YtbpmmmnphpkdjaaGreatDoorZWgt
import Derived.Test.YtbpmmmnphpkdjaaGreatDoorZVto
import Derived.Test.YtbpmmmnphpkdjaaGreatDoorZOrdT
import Derived.Test.YtbpmmmnphpkdjaaGreatDoorZVcP
import Derived.Test.YtbpmmmnphpkdjaaGreatDoorZOpD
namespace Go.Proofs.YtbpmmmnphpkdjaaGreatDoor
open Go.RowKit Go.MapKept Go.Maps
theorem undQe : Tryz.prog.underlying 77 = some (.struct (Tryz.prog.fieldsOf 77)) := by kernel_rfl
theorem infQe : (Tryz.prog.info? 77).map (·.size) = some 48 := by kernel_rfl
def TwoW (w0 w : World) (ba bb : Nat) (wt : Int) (st : QuT) : Prop := EqVs st ∧ ∃ xa Ra xb Rb, TwoE w0 w ba bb st (wtd wt st) xa Ra xb Rb
set_option linter.unusedSimpArgs false in
set_option maxRecDepth 100000 in
set_option maxHeartbeats 20000000 in
theorem queueEqual_any (bound voters weight : Int) (A0 : Option Addr) (n0 c0 : Nat) (l0 : List QoV) (w : World) (hE : Env w)
    (o0 : Sl w w.heap.size (fun z : QoV => encQo z.1 z.2.1) 48 A0 n0 l0) (z0 : n0 ≤ 1048576) (q0 : ∀ j, j < n0 → QoOk w 1048576 l0[j]!) :
    Calls Tryz.prog 7 #[.int .i64 bound, .int .i64 voters, .int .i64 weight, .slice A0 n0 c0] w (RetB w true) := by
  have HE := Lib.hid hE; have HO0 := Lib.hid o0; have HQ0 := Lib.hid q0
  have HLV := Lib.hid (liveQuorum_any w hE)
  clear hE o0 q0
  go_enter Tryz.func7, Tryz.ntmps7
  go_wp2_with fail
  refine HLV.out.mono ?_
  rintro e w1 ⟨rfl, hb1⟩
  have HB1 := Lib.hid hb1; clear hb1 HLV
  by_cases h1 : voters < 1
  · have b1 : decide (voters < 1) = true := decide_eq_true h1
    go_wp2_with fail
    go_ret
    exact RetB.mk HB1.out rfl
  have b1 : decide (voters < 1) = false := decide_eq_false h1
  by_cases h2 : 9 < voters
  · have b2 : decide (9 < voters) = true := decide_eq_true h2
    go_wp2_with fail
    go_ret
    exact RetB.mk HB1.out rfl
  have b2 : decide (9 < voters) = false := decide_eq_false h2
  by_cases h3 : weight < 1
  · have b3 : decide (weight < 1) = true := decide_eq_true h3
    go_wp2_with fail
    go_ret
    exact RetB.mk HB1.out rfl
  have b3 : decide (weight < 1) = false := decide_eq_false h3
  by_cases h4 : 4294967296 < weight
  · have b4 : decide (4294967296 < weight) = true := decide_eq_true h4
    go_wp2_with fail
    go_ret
    exact RetB.mk HB1.out rfl
  have b4 : decide (4294967296 < weight) = false := decide_eq_false h4
  obtain ⟨v, rfl⟩ : ∃ v : Nat, voters = (v : Int) := ⟨voters.toNat, by omega⟩
  have HV := Lib.hid (show 1 ≤ v ∧ v ≤ 9 ∧ 1 ≤ weight ∧ weight ≤ 4294967296 by omega)
  clear h1 h2 h3 h4
  go_wp2_with fail
  clear b1 b2 b3 b4
  go_loopw [9, 10] (fun l i wr => ∃ (k : Nat) (B : Option Addr) (d : Nat), i = .int .i64 ↑k ∧ k ≤ v ∧ l = .slice B k d ∧ wr.ownsRow w1.heap.size 82 2 (.slice B k d) k ((List.replicate k ((5, weight) : VtV)).flatMap encVt) ∧ Below w.heap.size w wr ∧ w1.heap.size ≤ wr.heap.size) (fun _ i _ => v - (intOf i).toNat)
  case atStart => exact ⟨0, none, 0, rfl, Nat.zero_le _, rfl, ⟨rfl, .inl ⟨rfl, rfl⟩⟩, HB1.out, Nat.le_refl _⟩
  case round =>
  obtain ⟨k, B, d, rfl, hk, rfl, hown, hb, hsz⟩ := hrel
  have HO := Lib.hid hown; have HB := Lib.hid hb; have HSZ := Lib.hid hsz; clear hown hb hsz
  by_cases hlt : k < v
  · have hb0 : Below wr.heap.size wr (wr.alloc (.cells #[.int .i64 5, .int .i64 weight] 82)) := (Below.refl _ wr).alloc (Nat.le_refl _) _
    have HO2 := Lib.hid (own_later HO.out hb0)
    have HB2 := Lib.hid (And.intro (HB.out.trans (hb0.mono HB.out.size)) (Nat.le_trans HSZ.out hb0.size))
    have HSL := Lib.hid (show Sl (wr.alloc (.cells #[.int .i64 5, .int .i64 weight] 82)) (wr.alloc (.cells #[.int .i64 5, .int .i64 weight] 82)).heap.size encVt 2 (some ⟨wr.heap.size, 0, none⟩) 1 [((5, weight) : VtV)] from ⟨rfl, fun _ => ⟨wr.heap.size, 0, rfl, by rw [sz1]; omega, fun i hi a u hu => by
        have hi0 : i = 0 := by omega
        subst hi0
        rw [cellH (heap_s0 wr _)]
        match a, hu with
        | 0, hu => exact hu
        | 1, hu => exact hu⟩⟩)
    have hv9 := HV.out.2.1
    clear hb0
    go_wp2_with (at_builtin; refine wpList_appG elemVq rfl _ _ rfl w1.heap.size B k d (List.replicate k ((5, weight) : VtV)) ?hx HO2.out (some ⟨wr.heap.size, 0, none⟩) 1 1 [((5, weight) : VtV)] ?hy HSL.out (fun e => by cases e) (by omega) HB2.out.2 ?hk)
    (try case hx => rfl)
    (try case hy => rfl)
    case hk =>
      intro A8 c8 w8 hv8 hb8
      have HF := Lib.hid (show w8.ownsRow w1.heap.size 82 2 (.slice A8 (k + 1) c8) (k + 1) ((List.replicate (k + 1) ((5, weight) : VtV)).flatMap encVt) ∧ Below w.heap.size w w8 ∧ w1.heap.size ≤ w8.heap.size from ⟨by rw [show List.replicate (k + 1) ((5, weight) : VtV) = List.replicate k ((5, weight) : VtV) ++ [((5, weight) : VtV)] from List.replicate_succ', List.flatMap_append, List.flatMap_singleton]; exact hv8, HB2.out.1.trans (hb8.mono HB1.out.size), Nat.le_trans HB2.out.2 hb8.size⟩)
      clear hv8 hb8 HSL HO2 HO
      go_wp2_with fail
      go_roundw
      case rel => exact ⟨k + 1, A8, c8, by go_num, by omega, rfl, HF.out.1, HF.out.2.1, HF.out.2.2⟩
      case measure => simp [intOf]; omega
  obtain rfl : k = v := by omega
  have HVS := Lib.hid (show Sl wr wr.heap.size encVt 2 B k (List.replicate k ((5, weight) : VtV)) ∧ (B = none → k = 0 ∧ d = 0) from by
    have h := own_slr HO.out (fun _ => rfl) (by simp)
    exact ⟨h.sl (fun _ => by simp [encVt]), h.hd.1⟩)
  have HWT := Lib.hid (wtd_inv (st := newS bound k) weight)
  have HFE := Lib.hid (fit_equal k weight (by have := HV.out; omega) HV.out.2.1 HV.out.2.2.1 HV.out.2.2.2)
  have HVW := Lib.hid (show ∀ x ∈ List.replicate k ((5, weight) : VtV), wfI x.1 from fun x hx => by rw [(List.mem_replicate.1 hx).2]; unfold wfI; omega)
  clear HO HSZ HB1
  by_cases hbad : bound < 0 ∨ 4096 < bound
  · have HN := Lib.hid (new_no bound k wr (by omega))
    go_wp2_with fail
    refine HN.out.mono ?_
    rintro e w3 ⟨rfl, hb3⟩
    have HN2 := Lib.hid (weighted_no bound B k d (List.replicate k ((5, weight) : VtV)) w3 (HVS.out.1.belowMore hb3 hb3.size) HVW.out (.inr hbad))
    have HB3 := Lib.hid (HB.out.trans (hb3.mono HB.out.size)); clear hb3 HN
    go_wp2_with fail
    refine HN2.out.mono ?_
    rintro e w4 ⟨rfl, hb4⟩
    have HB4 := Lib.hid (HB3.out.trans (hb4.mono HB3.out.size)); clear hb4 HN2
    go_wp2_with fail
    go_ret
    exact RetB.mk HB4.out rfl
  have HBD := Lib.hid (show 0 ≤ bound ∧ bound ≤ 4096 by omega)
  clear hbad
  have HN := Lib.hid (new_ok bound k wr HBD.out.1 HBD.out.2 HV.out.2.1)
  go_wp2_with fail
  refine HN.out.mono ?_
  rintro e w3 ⟨⟨ba, xa, Ra, rfl, hqa, ga⟩, hb3⟩
  have HN2 := Lib.hid (weighted_ok bound B k d (List.replicate k ((5, weight) : VtV)) w3 (HVS.out.1.belowMore hb3 hb3.size) HVS.out.2 HVW.out HFE.out HBD.out.1 HBD.out.2)
  rw [newW_wtd] at HN2
  have HQA := Lib.hid (And.intro hqa (And.intro ga hb3)); clear hqa ga hb3 HN
  go_wp2_with fail
  refine HN2.out.mono ?_
  rintro e w4 ⟨⟨bb, xb, Rb, rfl, hqb, gb⟩, hb4⟩
  have HNI := Lib.hid (newS_inv bound k HBD.out.1 HBD.out.2 HV.out.2.1)
  have HTW := Lib.hid (show TwoW w w4 ba bb weight (newS bound k) from ⟨EqVs.made bound k, _, _, _, _, TwoE.made HB.out HQA.out.1 HQA.out.2.1 HQA.out.2.2 hqb gb hb4 HNI.out (HWT.out HNI.out)⟩)
  clear hqb gb hb4 HQA HN2 HNI HWT HFE HVW HVS HB HBD xa Ra xb Rb
  go_wp2_with fail
  go_loopw [15, 16, 17, 18, 19, 20, 21, 22, 23, 24, 25] (fun i _ _ _ _ _ _ _ _ _ _ wr => ∃ (j : Nat) (st : QuT), i = .int .i64 ↑j ∧ j ≤ n0 ∧ TwoW w wr ba bb weight st) (fun i _ _ _ _ _ _ _ _ _ _ _ => n0 - (intOf i).toNat)
  case atStart => exact ⟨0, _, rfl, Nat.zero_le _, HTW.out⟩
  case round =>
  clear HTW
  obtain ⟨j, st, rfl, hj, heq, xa, Ra, xb, Rb, htw⟩ := hrel
  have HTW := Lib.hid htw; have HEQ := Lib.hid heq; clear htw heq
  by_cases hlt : j < n0
  · have ⟨b, off, eb, _, hcb⟩ := HO0.out.cells hlt
    have HQ := Lib.hid (HQ0.out j hlt)
    have HJ := Lib.hid (show j + 1 ≤ n0 by omega)
    have HCB := Lib.hid (show ∀ V : World, Below w.heap.size w V → V.rangeAt b (off + j * 48) (encQo l0[j]!.1 l0[j]!.2.1) from fun V hV => by intro i u hu; exact keep1 (hcb i u hu) hV)
    have hji : (j : Int) < (n0 : Int) := by omega
    have hj0 : (0 : Int) ≤ (j : Int) := by omega
    clear hcb
    subst eb
    have y0 := HCB.out wr HTW.out.b
    generalize l0[j]! = z at *
    have HG := Lib.hid (heap_s0 wr (.cells (encQo z.1 z.2.1).toArray 77))
    have HZ1 := Lib.hid (sz1 wr (.cells (encQo z.1 z.2.1).toArray 77))
    have HNX := Lib.hid (HTW.out.beyond (Nat.le_refl _))
    replace HTW := Lib.hid (HTW.out.later (show Below wr.heap.size wr (wr.alloc (.cells (encQo z.1 z.2.1).toArray 77)) from (Below.refl _ wr).alloc (Nat.le_refl _) _))
    go_upto_region 20 with (first
      | (apply wpList_loadMid 77; exact rfl; exact rfl; exact rfl; exact y0; exact undQe; exact rfl; exact infQe)
      | (apply wpList_storeTop 77 77; exact rfl; exact rfl; exact rfl; (first | (with_reducible rfl) | (exact sz1 _ _)); exact rfl; exact infQe; exact rfl; (simp [encQo, encPr, slV, Value.oneCell']))
      | fail)
    generalize wr.alloc (.cells (encQo z.1 z.2.1).toArray 77) = W at *
    obtain ⟨⟨kd, on, oz⟩, h, p⟩ := z
    have HGL := Lib.hid (show wr.heap.size < W.heap.size by have := HZ1.out; omega)
    have k0 : W.cell? ⟨wr.heap.size, 0, none⟩ = some (.int .i64 kd) := by rw [cellH HG.out]; rfl
    generalize wr.heap.size = g at *
    clear y0 HCB HZ1
    by_cases hk1 : kd = 1
    · have t1 : (kd == 1) = true := by rw [hk1]; rfl
      clear hk1
      have y1 : W.rangeAt g 3 [.int .i64 h.d.se, .int .i32 h.d.xi, .int .i64 h.d.zx, .int .i64 h.d.ti, .int .i32 h.d.t.n.ty, .string h.d.t.n.path, slV h.d.t.d, slV h.d.t.a, .int .i64 h.d.t.n.ow, .int .i32 h.d.t.n.ve, .int .i32 h.d.t.n.cr, .bool h.d.t.n.qh, .int .i64 h.d.t.n.qc, .int .i64 h.d.t.n.qb, .int .i64 h.d.t.n.si, .int .i32 h.d.t.n.st, slV h.d.t.i, slV h.d.t.p, .int .i32 h.d.t.n.co, slV h.d.t.s] := rangeAt_heapC (pre := [.int .i64 kd, .int .i64 on, .int .i64 oz]) (mid := [.int .i64 h.d.se, .int .i32 h.d.xi, .int .i64 h.d.zx, .int .i64 h.d.ti, .int .i32 h.d.t.n.ty, .string h.d.t.n.path, slV h.d.t.d, slV h.d.t.a, .int .i64 h.d.t.n.ow, .int .i32 h.d.t.n.ve, .int .i32 h.d.t.n.cr, .bool h.d.t.n.qh, .int .i64 h.d.t.n.qc, .int .i64 h.d.t.n.qb, .int .i64 h.d.t.n.si, .int .i32 h.d.t.n.st, slV h.d.t.i, slV h.d.t.p, .int .i32 h.d.t.n.co, slV h.d.t.s]) (post := encRp h.r) HG.out rfl rfl
      have y2 : W.rangeAt g 23 [.int .i32 h.r.xi, .int .i64 h.r.zx, .int .i32 h.r.co, .int .i32 h.r.r.n.ty, .int .i32 h.r.r.n.co, .string h.r.r.n.path, .int .i64 h.r.r.n.q.a, .int .i64 h.r.r.n.q.b, .int .i64 h.r.r.n.q.c, .int .i64 h.r.r.n.q.d, .int .i32 h.r.r.n.q.e, .int .i32 h.r.r.n.q.f, .int .i32 h.r.r.n.q.g, .int .i64 h.r.r.n.q.h, .int .i32 h.r.r.n.q.i, .int .i32 h.r.r.n.q.j, .int .i64 h.r.r.n.q.k, slV h.r.r.d, slV h.r.r.a, slV h.r.r.m, .int .i32 h.r.r.n.ct, .int .i64 h.r.r.n.si, .int .i32 h.r.r.n.st, slV h.r.r.i, slV h.r.r.s] := rangeAt_heapC (pre := [.int .i64 kd, .int .i64 on, .int .i64 oz] ++ encDl h.d) (mid := [.int .i32 h.r.xi, .int .i64 h.r.zx, .int .i32 h.r.co, .int .i32 h.r.r.n.ty, .int .i32 h.r.r.n.co, .string h.r.r.n.path, .int .i64 h.r.r.n.q.a, .int .i64 h.r.r.n.q.b, .int .i64 h.r.r.n.q.c, .int .i64 h.r.r.n.q.d, .int .i32 h.r.r.n.q.e, .int .i32 h.r.r.n.q.f, .int .i32 h.r.r.n.q.g, .int .i64 h.r.r.n.q.h, .int .i32 h.r.r.n.q.i, .int .i32 h.r.r.n.q.j, .int .i64 h.r.r.n.q.k, slV h.r.r.d, slV h.r.r.a, slV h.r.r.m, .int .i32 h.r.r.n.ct, .int .i64 h.r.r.n.si, .int .i32 h.r.r.n.st, slV h.r.r.i, slV h.r.r.s]) (post := []) HG.out rfl rfl
      have HG2 := Lib.hid (heap_s0 W (.cells #[.int .i64 h.d.se, .int .i32 h.d.xi, .int .i64 h.d.zx, .int .i64 h.d.ti, .int .i32 h.d.t.n.ty, .string h.d.t.n.path, slV h.d.t.d, slV h.d.t.a, .int .i64 h.d.t.n.ow, .int .i32 h.d.t.n.ve, .int .i32 h.d.t.n.cr, .bool h.d.t.n.qh, .int .i64 h.d.t.n.qc, .int .i64 h.d.t.n.qb, .int .i64 h.d.t.n.si, .int .i32 h.d.t.n.st, slV h.d.t.i, slV h.d.t.p, .int .i32 h.d.t.n.co, slV h.d.t.s, .int .i32 h.r.xi, .int .i64 h.r.zx, .int .i32 h.r.co, .int .i32 h.r.r.n.ty, .int .i32 h.r.r.n.co, .string h.r.r.n.path, .int .i64 h.r.r.n.q.a, .int .i64 h.r.r.n.q.b, .int .i64 h.r.r.n.q.c, .int .i64 h.r.r.n.q.d, .int .i32 h.r.r.n.q.e, .int .i32 h.r.r.n.q.f, .int .i32 h.r.r.n.q.g, .int .i64 h.r.r.n.q.h, .int .i32 h.r.r.n.q.i, .int .i32 h.r.r.n.q.j, .int .i64 h.r.r.n.q.k, slV h.r.r.d, slV h.r.r.a, slV h.r.r.m, .int .i32 h.r.r.n.ct, .int .i64 h.r.r.n.si, .int .i32 h.r.r.n.st, slV h.r.r.i, slV h.r.r.s] 63))
      have HS := Lib.hid (sz1 W (.cells #[.int .i64 h.d.se, .int .i32 h.d.xi, .int .i64 h.d.zx, .int .i64 h.d.ti, .int .i32 h.d.t.n.ty, .string h.d.t.n.path, slV h.d.t.d, slV h.d.t.a, .int .i64 h.d.t.n.ow, .int .i32 h.d.t.n.ve, .int .i32 h.d.t.n.cr, .bool h.d.t.n.qh, .int .i64 h.d.t.n.qc, .int .i64 h.d.t.n.qb, .int .i64 h.d.t.n.si, .int .i32 h.d.t.n.st, slV h.d.t.i, slV h.d.t.p, .int .i32 h.d.t.n.co, slV h.d.t.s, .int .i32 h.r.xi, .int .i64 h.r.zx, .int .i32 h.r.co, .int .i32 h.r.r.n.ty, .int .i32 h.r.r.n.co, .string h.r.r.n.path, .int .i64 h.r.r.n.q.a, .int .i64 h.r.r.n.q.b, .int .i64 h.r.r.n.q.c, .int .i64 h.r.r.n.q.d, .int .i32 h.r.r.n.q.e, .int .i32 h.r.r.n.q.f, .int .i32 h.r.r.n.q.g, .int .i64 h.r.r.n.q.h, .int .i32 h.r.r.n.q.i, .int .i32 h.r.r.n.q.j, .int .i64 h.r.r.n.q.k, slV h.r.r.d, slV h.r.r.a, slV h.r.r.m, .int .i32 h.r.r.n.ct, .int .i64 h.r.r.n.si, .int .i32 h.r.r.n.st, slV h.r.r.i, slV h.r.r.s] 63))
      replace HNX := Lib.hid (HTW.out.beyond (Nat.le_refl _))
      replace HTW := Lib.hid (HTW.out.later (show Below W.heap.size W (W.alloc (.cells #[.int .i64 h.d.se, .int .i32 h.d.xi, .int .i64 h.d.zx, .int .i64 h.d.ti, .int .i32 h.d.t.n.ty, .string h.d.t.n.path, slV h.d.t.d, slV h.d.t.a, .int .i64 h.d.t.n.ow, .int .i32 h.d.t.n.ve, .int .i32 h.d.t.n.cr, .bool h.d.t.n.qh, .int .i64 h.d.t.n.qc, .int .i64 h.d.t.n.qb, .int .i64 h.d.t.n.si, .int .i32 h.d.t.n.st, slV h.d.t.i, slV h.d.t.p, .int .i32 h.d.t.n.co, slV h.d.t.s, .int .i32 h.r.xi, .int .i64 h.r.zx, .int .i32 h.r.co, .int .i32 h.r.r.n.ty, .int .i32 h.r.r.n.co, .string h.r.r.n.path, .int .i64 h.r.r.n.q.a, .int .i64 h.r.r.n.q.b, .int .i64 h.r.r.n.q.c, .int .i64 h.r.r.n.q.d, .int .i32 h.r.r.n.q.e, .int .i32 h.r.r.n.q.f, .int .i32 h.r.r.n.q.g, .int .i64 h.r.r.n.q.h, .int .i32 h.r.r.n.q.i, .int .i32 h.r.r.n.q.j, .int .i64 h.r.r.n.q.k, slV h.r.r.d, slV h.r.r.a, slV h.r.r.m, .int .i32 h.r.r.n.ct, .int .i64 h.r.r.n.si, .int .i32 h.r.r.n.st, slV h.r.r.i, slV h.r.r.s] 63)) from (Below.refl _ W).alloc (Nat.le_refl _) _))
      go_upto_region 23 with (first
        | (apply wpList_loadMid 54; exact rfl; exact rfl; exact rfl; exact y1; exact undDl; exact rfl; exact infDl)
        | (apply wpList_loadMid 61; exact rfl; exact rfl; exact rfl; exact y2; exact undRp; exact rfl; exact infRp)
        | (apply wpList_storeTop 63 63; exact rfl; exact rfl; exact rfl; (first | (with_reducible rfl) | (exact sz1 _ _) | (exact sz2 _ _ _) | (exact sz3 _ _ _ _)); exact rfl; exact infPr; exact rfl; (first | exact onePr _ | simp [Value.oneCell']))
        | fail)
      generalize W.alloc (.cells #[.int .i64 h.d.se, .int .i32 h.d.xi, .int .i64 h.d.zx, .int .i64 h.d.ti, .int .i32 h.d.t.n.ty, .string h.d.t.n.path, slV h.d.t.d, slV h.d.t.a, .int .i64 h.d.t.n.ow, .int .i32 h.d.t.n.ve, .int .i32 h.d.t.n.cr, .bool h.d.t.n.qh, .int .i64 h.d.t.n.qc, .int .i64 h.d.t.n.qb, .int .i64 h.d.t.n.si, .int .i32 h.d.t.n.st, slV h.d.t.i, slV h.d.t.p, .int .i32 h.d.t.n.co, slV h.d.t.s, .int .i32 h.r.xi, .int .i64 h.r.zx, .int .i32 h.r.co, .int .i32 h.r.r.n.ty, .int .i32 h.r.r.n.co, .string h.r.r.n.path, .int .i64 h.r.r.n.q.a, .int .i64 h.r.r.n.q.b, .int .i64 h.r.r.n.q.c, .int .i64 h.r.r.n.q.d, .int .i32 h.r.r.n.q.e, .int .i32 h.r.r.n.q.f, .int .i32 h.r.r.n.q.g, .int .i64 h.r.r.n.q.h, .int .i32 h.r.r.n.q.i, .int .i32 h.r.r.n.q.j, .int .i64 h.r.r.n.q.k, slV h.r.r.d, slV h.r.r.a, slV h.r.r.m, .int .i32 h.r.r.n.ct, .int .i64 h.r.r.n.si, .int .i32 h.r.r.n.st, slV h.r.r.i, slV h.r.r.s] 63) = W2 at *
      clear y1 y2 k0 HG HGL
      have HSO := Lib.hid (fun (V : World) (hV : Below W2.heap.size W2 V) => (rangeAt_heapC (pre := []) (mid := [.int .i64 h.d.se, .int .i32 h.d.xi, .int .i64 h.d.zx, .int .i64 h.d.ti, .int .i32 h.d.t.n.ty, .string h.d.t.n.path, slV h.d.t.d, slV h.d.t.a, .int .i64 h.d.t.n.ow, .int .i32 h.d.t.n.ve, .int .i32 h.d.t.n.cr, .bool h.d.t.n.qh, .int .i64 h.d.t.n.qc, .int .i64 h.d.t.n.qb, .int .i64 h.d.t.n.si, .int .i32 h.d.t.n.st, slV h.d.t.i, slV h.d.t.p, .int .i32 h.d.t.n.co, slV h.d.t.s, .int .i32 h.r.xi, .int .i64 h.r.zx, .int .i32 h.r.co, .int .i32 h.r.r.n.ty, .int .i32 h.r.r.n.co, .string h.r.r.n.path, .int .i64 h.r.r.n.q.a, .int .i64 h.r.r.n.q.b, .int .i64 h.r.r.n.q.c, .int .i64 h.r.r.n.q.d, .int .i32 h.r.r.n.q.e, .int .i32 h.r.r.n.q.f, .int .i32 h.r.r.n.q.g, .int .i64 h.r.r.n.q.h, .int .i32 h.r.r.n.q.i, .int .i32 h.r.r.n.q.j, .int .i64 h.r.r.n.q.k, slV h.r.r.d, slV h.r.r.a, slV h.r.r.m, .int .i32 h.r.r.n.ct, .int .i64 h.r.r.n.si, .int .i32 h.r.r.n.st, slV h.r.r.i, slV h.r.r.s]) (post := []) ((hV.block _ (by have := HS.out; omega)).trans HG2.out) (by simp) rfl : V.rangeAt W.heap.size 0 [.int .i64 h.d.se, .int .i32 h.d.xi, .int .i64 h.d.zx, .int .i64 h.d.ti, .int .i32 h.d.t.n.ty, .string h.d.t.n.path, slV h.d.t.d, slV h.d.t.a, .int .i64 h.d.t.n.ow, .int .i32 h.d.t.n.ve, .int .i32 h.d.t.n.cr, .bool h.d.t.n.qh, .int .i64 h.d.t.n.qc, .int .i64 h.d.t.n.qb, .int .i64 h.d.t.n.si, .int .i32 h.d.t.n.st, slV h.d.t.i, slV h.d.t.p, .int .i32 h.d.t.n.co, slV h.d.t.s, .int .i32 h.r.xi, .int .i64 h.r.zx, .int .i32 h.r.co, .int .i32 h.r.r.n.ty, .int .i32 h.r.r.n.co, .string h.r.r.n.path, .int .i64 h.r.r.n.q.a, .int .i64 h.r.r.n.q.b, .int .i64 h.r.r.n.q.c, .int .i64 h.r.r.n.q.d, .int .i32 h.r.r.n.q.e, .int .i32 h.r.r.n.q.f, .int .i32 h.r.r.n.q.g, .int .i64 h.r.r.n.q.h, .int .i32 h.r.r.n.q.i, .int .i32 h.r.r.n.q.j, .int .i64 h.r.r.n.q.k, slV h.r.r.d, slV h.r.r.a, slV h.r.r.m, .int .i32 h.r.r.n.ct, .int .i64 h.r.r.n.si, .int .i32 h.r.r.n.st, slV h.r.r.i, slV h.r.r.s]))
      have HSW := Lib.hid (show W.heap.size < W2.drew.heap.size from Nat.lt_of_lt_of_le (by have := HS.out; omega) (drew_self W2).size)
      replace HTW := Lib.hid (HTW.out.later (drew_self W2))
      refine wp_region_M (S := fun V => V.rangeAt W.heap.size 0 [.int .i64 h.d.se, .int .i32 h.d.xi, .int .i64 h.d.zx, .int .i64 h.d.ti, .int .i32 h.d.t.n.ty, .string h.d.t.n.path, slV h.d.t.d, slV h.d.t.a, .int .i64 h.d.t.n.ow, .int .i32 h.d.t.n.ve, .int .i32 h.d.t.n.cr, .bool h.d.t.n.qh, .int .i64 h.d.t.n.qc, .int .i64 h.d.t.n.qb, .int .i64 h.d.t.n.si, .int .i32 h.d.t.n.st, slV h.d.t.i, slV h.d.t.p, .int .i32 h.d.t.n.co, slV h.d.t.s, .int .i32 h.r.xi, .int .i64 h.r.zx, .int .i32 h.r.co, .int .i32 h.r.r.n.ty, .int .i32 h.r.r.n.co, .string h.r.r.n.path, .int .i64 h.r.r.n.q.a, .int .i64 h.r.r.n.q.b, .int .i64 h.r.r.n.q.c, .int .i64 h.r.r.n.q.d, .int .i32 h.r.r.n.q.e, .int .i32 h.r.r.n.q.f, .int .i32 h.r.r.n.q.g, .int .i64 h.r.r.n.q.h, .int .i32 h.r.r.n.q.i, .int .i32 h.r.r.n.q.j, .int .i64 h.r.r.n.q.k, slV h.r.r.d, slV h.r.r.a, slV h.r.r.m, .int .i32 h.r.r.n.ct, .int .i64 h.r.r.n.si, .int .i32 h.r.r.n.st, slV h.r.r.i, slV h.r.r.s]) 7 (by kernel_rfl) (HSO.out _ (drew_self W2)) (fun hHeld => ?_)
      generalize W2.drew = V1 at *
      clear HSO HG2 HS
      generalize W.heap.size = g2 at *
      refine wpAnyM_take (i := 0) (v := .pointer (some ⟨ba, 0, none⟩)) rfl (by kernel_rfl) (fun _ _ _ h => h) (Or.inl ⟨by rfl, by intro w hSw; clear hSw; go_simp⟩) (by assumption) ?_
      (try simp only [Act.put, List.setIfInBounds_toArray, List.set_cons_zero, List.set_cons_succ])
      refine wpAnyM_take (i := 1) (v := .agg #[.int .i64 h.d.se, .int .i32 h.d.xi, .int .i64 h.d.zx, .int .i64 h.d.ti, .int .i32 h.d.t.n.ty, .string h.d.t.n.path, slV h.d.t.d, slV h.d.t.a, .int .i64 h.d.t.n.ow, .int .i32 h.d.t.n.ve, .int .i32 h.d.t.n.cr, .bool h.d.t.n.qh, .int .i64 h.d.t.n.qc, .int .i64 h.d.t.n.qb, .int .i64 h.d.t.n.si, .int .i32 h.d.t.n.st, slV h.d.t.i, slV h.d.t.p, .int .i32 h.d.t.n.co, slV h.d.t.s, .int .i32 h.r.xi, .int .i64 h.r.zx, .int .i32 h.r.co, .int .i32 h.r.r.n.ty, .int .i32 h.r.r.n.co, .string h.r.r.n.path, .int .i64 h.r.r.n.q.a, .int .i64 h.r.r.n.q.b, .int .i64 h.r.r.n.q.c, .int .i64 h.r.r.n.q.d, .int .i32 h.r.r.n.q.e, .int .i32 h.r.r.n.q.f, .int .i32 h.r.r.n.q.g, .int .i64 h.r.r.n.q.h, .int .i32 h.r.r.n.q.i, .int .i32 h.r.r.n.q.j, .int .i64 h.r.r.n.q.k, slV h.r.r.d, slV h.r.r.a, slV h.r.r.m, .int .i32 h.r.r.n.ct, .int .i64 h.r.r.n.si, .int .i32 h.r.r.n.st, slV h.r.r.i, slV h.r.r.s]) rfl (by kernel_rfl) (fun _ _ _ h => h) (yieldsIf_load_mid (by rfl) 63 _ rfl g2 (0) rfl [.int .i64 h.d.se, .int .i32 h.d.xi, .int .i64 h.d.zx, .int .i64 h.d.ti, .int .i32 h.d.t.n.ty, .string h.d.t.n.path, slV h.d.t.d, slV h.d.t.a, .int .i64 h.d.t.n.ow, .int .i32 h.d.t.n.ve, .int .i32 h.d.t.n.cr, .bool h.d.t.n.qh, .int .i64 h.d.t.n.qc, .int .i64 h.d.t.n.qb, .int .i64 h.d.t.n.si, .int .i32 h.d.t.n.st, slV h.d.t.i, slV h.d.t.p, .int .i32 h.d.t.n.co, slV h.d.t.s, .int .i32 h.r.xi, .int .i64 h.r.zx, .int .i32 h.r.co, .int .i32 h.r.r.n.ty, .int .i32 h.r.r.n.co, .string h.r.r.n.path, .int .i64 h.r.r.n.q.a, .int .i64 h.r.r.n.q.b, .int .i64 h.r.r.n.q.c, .int .i64 h.r.r.n.q.d, .int .i32 h.r.r.n.q.e, .int .i32 h.r.r.n.q.f, .int .i32 h.r.r.n.q.g, .int .i64 h.r.r.n.q.h, .int .i32 h.r.r.n.q.i, .int .i32 h.r.r.n.q.j, .int .i64 h.r.r.n.q.k, slV h.r.r.d, slV h.r.r.a, slV h.r.r.m, .int .i32 h.r.r.n.ct, .int .i64 h.r.r.n.si, .int .i32 h.r.r.n.st, slV h.r.r.i, slV h.r.r.s] _ (fun _ h => h) undPr rfl infPr) (by assumption) ?_
      (try simp only [Act.put, List.setIfInBounds_toArray, List.set_cons_zero, List.set_cons_succ])
      refine wpAnyM_take (i := 3) (v := .pointer (some ⟨bb, 0, none⟩)) rfl (by kernel_rfl) (fun _ _ _ h => h) (Or.inl ⟨by rfl, by intro w hSw; clear hSw; go_simp⟩) (by assumption) ?_
      (try simp only [Act.put, List.setIfInBounds_toArray, List.set_cons_zero, List.set_cons_succ])
      refine wpAnyM_take (i := 4) (v := .agg #[.int .i64 h.d.se, .int .i32 h.d.xi, .int .i64 h.d.zx, .int .i64 h.d.ti, .int .i32 h.d.t.n.ty, .string h.d.t.n.path, slV h.d.t.d, slV h.d.t.a, .int .i64 h.d.t.n.ow, .int .i32 h.d.t.n.ve, .int .i32 h.d.t.n.cr, .bool h.d.t.n.qh, .int .i64 h.d.t.n.qc, .int .i64 h.d.t.n.qb, .int .i64 h.d.t.n.si, .int .i32 h.d.t.n.st, slV h.d.t.i, slV h.d.t.p, .int .i32 h.d.t.n.co, slV h.d.t.s, .int .i32 h.r.xi, .int .i64 h.r.zx, .int .i32 h.r.co, .int .i32 h.r.r.n.ty, .int .i32 h.r.r.n.co, .string h.r.r.n.path, .int .i64 h.r.r.n.q.a, .int .i64 h.r.r.n.q.b, .int .i64 h.r.r.n.q.c, .int .i64 h.r.r.n.q.d, .int .i32 h.r.r.n.q.e, .int .i32 h.r.r.n.q.f, .int .i32 h.r.r.n.q.g, .int .i64 h.r.r.n.q.h, .int .i32 h.r.r.n.q.i, .int .i32 h.r.r.n.q.j, .int .i64 h.r.r.n.q.k, slV h.r.r.d, slV h.r.r.a, slV h.r.r.m, .int .i32 h.r.r.n.ct, .int .i64 h.r.r.n.si, .int .i32 h.r.r.n.st, slV h.r.r.i, slV h.r.r.s]) rfl (by kernel_rfl) (fun _ _ _ h => h) (yieldsIf_load_mid (by rfl) 63 _ rfl g2 (0) rfl [.int .i64 h.d.se, .int .i32 h.d.xi, .int .i64 h.d.zx, .int .i64 h.d.ti, .int .i32 h.d.t.n.ty, .string h.d.t.n.path, slV h.d.t.d, slV h.d.t.a, .int .i64 h.d.t.n.ow, .int .i32 h.d.t.n.ve, .int .i32 h.d.t.n.cr, .bool h.d.t.n.qh, .int .i64 h.d.t.n.qc, .int .i64 h.d.t.n.qb, .int .i64 h.d.t.n.si, .int .i32 h.d.t.n.st, slV h.d.t.i, slV h.d.t.p, .int .i32 h.d.t.n.co, slV h.d.t.s, .int .i32 h.r.xi, .int .i64 h.r.zx, .int .i32 h.r.co, .int .i32 h.r.r.n.ty, .int .i32 h.r.r.n.co, .string h.r.r.n.path, .int .i64 h.r.r.n.q.a, .int .i64 h.r.r.n.q.b, .int .i64 h.r.r.n.q.c, .int .i64 h.r.r.n.q.d, .int .i32 h.r.r.n.q.e, .int .i32 h.r.r.n.q.f, .int .i32 h.r.r.n.q.g, .int .i64 h.r.r.n.q.h, .int .i32 h.r.r.n.q.i, .int .i32 h.r.r.n.q.j, .int .i64 h.r.r.n.q.k, slV h.r.r.d, slV h.r.r.a, slV h.r.r.m, .int .i32 h.r.r.n.ct, .int .i64 h.r.r.n.si, .int .i32 h.r.r.n.st, slV h.r.r.i, slV h.r.r.s] _ (fun _ h => h) undPr rfl infPr) (by assumption) ?_
      (try simp only [Act.put, List.setIfInBounds_toArray, List.set_cons_zero, List.set_cons_succ])
      have HDA := Lib.hid (fun (V : World) (hV : Below w.heap.size w V) => PrAt.fr (R' := (· < w.heap.size)) HQ.out.2.1 (Fr.of_below (own := []) hV) (fun b _ h => ⟨by simp, h⟩))
      have HWP := Lib.hid (wtd_push st weight p)
      have HPI := Lib.hid (And.intro (pushS_inv HTW.out.ia p HQ.out.2.2) (EqVs.push HEQ.out p))
      have HP := Lib.hid (pushW HTW.out.ha HTW.out.ia (HDA.out _ HTW.out.b) (HTW.out.env HE.out) HQ.out.2.2)
      refine wpAnyM_one (i := 2) rfl (by kernel_rfl) (fun K hK => ?_)
      go_simp
      refine HP.out.mono ?_
      rintro e w5 ⟨rfl, hs⟩
      dsimp only
      have hr : w5.rangeAt g2 0 [.int .i64 h.d.se, .int .i32 h.d.xi, .int .i64 h.d.zx, .int .i64 h.d.ti, .int .i32 h.d.t.n.ty, .string h.d.t.n.path, slV h.d.t.d, slV h.d.t.a, .int .i64 h.d.t.n.ow, .int .i32 h.d.t.n.ve, .int .i32 h.d.t.n.cr, .bool h.d.t.n.qh, .int .i64 h.d.t.n.qc, .int .i64 h.d.t.n.qb, .int .i64 h.d.t.n.si, .int .i32 h.d.t.n.st, slV h.d.t.i, slV h.d.t.p, .int .i32 h.d.t.n.co, slV h.d.t.s, .int .i32 h.r.xi, .int .i64 h.r.zx, .int .i32 h.r.co, .int .i32 h.r.r.n.ty, .int .i32 h.r.r.n.co, .string h.r.r.n.path, .int .i64 h.r.r.n.q.a, .int .i64 h.r.r.n.q.b, .int .i64 h.r.r.n.q.c, .int .i64 h.r.r.n.q.d, .int .i32 h.r.r.n.q.e, .int .i32 h.r.r.n.q.f, .int .i32 h.r.r.n.q.g, .int .i64 h.r.r.n.q.h, .int .i32 h.r.r.n.q.i, .int .i32 h.r.r.n.q.j, .int .i64 h.r.r.n.q.k, slV h.r.r.d, slV h.r.r.a, slV h.r.r.m, .int .i32 h.r.r.n.ct, .int .i64 h.r.r.n.si, .int .i32 h.r.r.n.st, slV h.r.r.i, slV h.r.r.s] := fun i u hu => (hs.2.cell (p := ⟨g2, 0 + i, none⟩) HSW.out HNX.out.1).trans (hHeld i u hu)
      refine hK.out _ _ hr ?_
      obtain ⟨xa2, Ra2, htw2⟩ := HTW.out.step hs HPI.out.1
      replace HSW := Lib.hid (Nat.lt_of_lt_of_le HSW.out hs.2.size)
      clear hK K HP HTW hs hHeld
      have HTW := Lib.hid htw2; clear htw2
      (try simp only [Act.put, List.setIfInBounds_toArray, List.set_cons_zero, List.set_cons_succ])
      have HP := Lib.hid (pushW HTW.out.hb HTW.out.ib (HDA.out _ HTW.out.b) (HTW.out.env HE.out) HQ.out.2.2)
      unfold PushW at HP
      rw [HWP.out.1, HWP.out.2] at HP
      refine wpAnyM_one (i := 5) rfl (by kernel_rfl) (fun K hK => ?_)
      go_simp
      refine HP.out.mono ?_
      rintro e w6 ⟨rfl, hs⟩
      dsimp only
      have hr2 : w6.rangeAt g2 0 [.int .i64 h.d.se, .int .i32 h.d.xi, .int .i64 h.d.zx, .int .i64 h.d.ti, .int .i32 h.d.t.n.ty, .string h.d.t.n.path, slV h.d.t.d, slV h.d.t.a, .int .i64 h.d.t.n.ow, .int .i32 h.d.t.n.ve, .int .i32 h.d.t.n.cr, .bool h.d.t.n.qh, .int .i64 h.d.t.n.qc, .int .i64 h.d.t.n.qb, .int .i64 h.d.t.n.si, .int .i32 h.d.t.n.st, slV h.d.t.i, slV h.d.t.p, .int .i32 h.d.t.n.co, slV h.d.t.s, .int .i32 h.r.xi, .int .i64 h.r.zx, .int .i32 h.r.co, .int .i32 h.r.r.n.ty, .int .i32 h.r.r.n.co, .string h.r.r.n.path, .int .i64 h.r.r.n.q.a, .int .i64 h.r.r.n.q.b, .int .i64 h.r.r.n.q.c, .int .i64 h.r.r.n.q.d, .int .i32 h.r.r.n.q.e, .int .i32 h.r.r.n.q.f, .int .i32 h.r.r.n.q.g, .int .i64 h.r.r.n.q.h, .int .i32 h.r.r.n.q.i, .int .i32 h.r.r.n.q.j, .int .i64 h.r.r.n.q.k, slV h.r.r.d, slV h.r.r.a, slV h.r.r.m, .int .i32 h.r.r.n.ct, .int .i64 h.r.r.n.si, .int .i32 h.r.r.n.st, slV h.r.r.i, slV h.r.r.s] := fun i u hu => (hs.2.cell (p := ⟨g2, 0 + i, none⟩) HSW.out HNX.out.2).trans (hr i u hu)
      refine hK.out _ _ hr2 ?_
      obtain ⟨xb2, Rb2, htw2⟩ := HTW.out.stepB hs (wtd_inv weight HPI.out.1)
      have HF := Lib.hid (show TwoW w w6 ba bb weight (pushS st p) from ⟨HPI.out.2, _, _, _, _, htw2⟩)
      clear hK K HP HTW hs hr HDA htw2 HWP HPI
      generalize pushE st p = pe at *
      (try simp only [Act.put, List.setIfInBounds_toArray, List.set_cons_zero, List.set_cons_succ])
      refine wpAnyM_one (i := 6) rfl (by kernel_rfl) (fun K hK => ?_)
      go_simp
      refine hK.out _ _ hr2 ?_
      clear hK K hr2
      (try simp only [Act.put, List.setIfInBounds_toArray, List.set_cons_zero, List.set_cons_succ])
      refine wpAnyM_tail (n := 7) (by kernel_rfl) ?_
      simp only [List.drop_succ_cons, List.drop_zero]
      go_wp2_with fail
      go_roundw
      case rel => exact ⟨j + 1, pushS st p, by go_num, HJ.out, HF.out⟩
      case measure => simp [intOf]; have := HJ.out; omega
    · have u1 : (kd == 1) = false := beq_eq_false_iff_ne.2 hk1
      clear hk1
      by_cases hk2 : kd = 2
      · have t2 : (kd == 2) = true := by rw [hk2]; rfl
        clear hk2
        have k1 : W.cell? ⟨g, 1, none⟩ = some (.int .i64 on) := by rw [cellH HG.out]; rfl
        have k2 : W.cell? ⟨g, 2, none⟩ = some (.int .i64 oz) := by rw [cellH HG.out]; rfl
        have HP := Lib.hid (ackW on oz HTW.out.ha HTW.out.ia)
        have HWA := Lib.hid (wtd_ack st weight on oz)
        have HPI := Lib.hid (And.intro (ackT_inv HTW.out.ia on oz) (EqVs.ack HEQ.out on oz))
        have HR1 := Lib.hid (wtd_ready HV.out.2.2.1 HV.out.2.2.2 HTW.out.ia HEQ.out)
        have HR2 := Lib.hid (wtd_ready HV.out.2.2.1 HV.out.2.2.2 HPI.out.1 HPI.out.2)
        go_wp2_with fail
        refine HP.out.mono ?_
        rintro e w5 ⟨rfl, hs⟩
        have hg5 := (hs.2.block g HGL.out HNX.out.1).trans HG.out
        have k1' : w5.cell? ⟨g, 1, none⟩ = some (.int .i64 on) := by rw [cellH hg5]; rfl
        have k2' : w5.cell? ⟨g, 2, none⟩ = some (.int .i64 oz) := by rw [cellH hg5]; rfl
        obtain ⟨xa2, Ra2, htw2⟩ := HTW.out.step hs HPI.out.1
        clear HP HTW hs k0 k1 k2 HG hg5
        have HTW := Lib.hid htw2; clear htw2
        have HP := Lib.hid (ackW on oz HTW.out.hb HTW.out.ib)
        unfold AckW at HP
        rw [HWA.out.1, HWA.out.2, HR1.out, HR2.out] at HP
        generalize ackC st on oz = ac at *
        generalize (↑(rdN (ackT st on oz)) - ↑(rdN st) : Int) = rr at *
        go_wp2_with fail
        refine HP.out.mono ?_
        rintro e w6 ⟨rfl, hs⟩
        obtain ⟨xb2, Rb2, htw2⟩ := HTW.out.stepB hs (wtd_inv weight HPI.out.1)
        have HF := Lib.hid (show TwoW w w6 ba bb weight (ackT st on oz) from ⟨HPI.out.2, _, _, _, _, htw2⟩)
        clear HP HTW hs htw2 k1' k2' HWA HPI HR1 HR2
        go_wp2_with fail
        go_roundw
        case rel => exact ⟨j + 1, ackT st on oz, by go_num, HJ.out, HF.out⟩
        case measure => simp [intOf]; have := HJ.out; omega
      · have u2 : (kd == 2) = false := beq_eq_false_iff_ne.2 hk2
        clear hk2
        by_cases hk3 : kd = 3
        · have t3 : (kd == 3) = true := by rw [hk3]; rfl
          clear hk3 HG HGL
          have HP := Lib.hid (commW HTW.out.ha HTW.out.ia)
          have HWC := Lib.hid (wtd_comm HV.out.2.2.1 HV.out.2.2.2 HTW.out.ia HEQ.out)
          have HPI := Lib.hid (And.intro (commT_inv HTW.out.ia) (EqVs.comm HEQ.out))
          have HR1 := Lib.hid (wtd_ready HV.out.2.2.1 HV.out.2.2.2 HTW.out.ia HEQ.out)
          unfold CommW at HP
          go_wp2_with fail
          refine HP.out.mono ?_
          rintro e w5 ⟨⟨h2, rfl, hz1, hz2⟩, hs⟩
          have HZ := Lib.hid (commZ (fun h => ⟨_, hz1 h⟩) hz2)
          obtain ⟨xa2, Ra2, htw2⟩ := HTW.out.step hs HPI.out.1
          replace HNX := Lib.hid (htw2.beyond (Nat.le_refl _))
          have HG2 := Lib.hid (heap_s0 w5 (.cells #[.int .i64 h2.d.se, .int .i32 h2.d.xi, .int .i64 h2.d.zx, .int .i64 h2.d.ti, .int .i32 h2.d.t.n.ty, .string h2.d.t.n.path, slV h2.d.t.d, slV h2.d.t.a, .int .i64 h2.d.t.n.ow, .int .i32 h2.d.t.n.ve, .int .i32 h2.d.t.n.cr, .bool h2.d.t.n.qh, .int .i64 h2.d.t.n.qc, .int .i64 h2.d.t.n.qb, .int .i64 h2.d.t.n.si, .int .i32 h2.d.t.n.st, slV h2.d.t.i, slV h2.d.t.p, .int .i32 h2.d.t.n.co, slV h2.d.t.s, .int .i32 h2.r.xi, .int .i64 h2.r.zx, .int .i32 h2.r.co, .int .i32 h2.r.r.n.ty, .int .i32 h2.r.r.n.co, .string h2.r.r.n.path, .int .i64 h2.r.r.n.q.a, .int .i64 h2.r.r.n.q.b, .int .i64 h2.r.r.n.q.c, .int .i64 h2.r.r.n.q.d, .int .i32 h2.r.r.n.q.e, .int .i32 h2.r.r.n.q.f, .int .i32 h2.r.r.n.q.g, .int .i64 h2.r.r.n.q.h, .int .i32 h2.r.r.n.q.i, .int .i32 h2.r.r.n.q.j, .int .i64 h2.r.r.n.q.k, slV h2.r.r.d, slV h2.r.r.a, slV h2.r.r.m, .int .i32 h2.r.r.n.ct, .int .i64 h2.r.r.n.si, .int .i32 h2.r.r.n.st, slV h2.r.r.i, slV h2.r.r.s] 63))
          have HS := Lib.hid (sz1 w5 (.cells #[.int .i64 h2.d.se, .int .i32 h2.d.xi, .int .i64 h2.d.zx, .int .i64 h2.d.ti, .int .i32 h2.d.t.n.ty, .string h2.d.t.n.path, slV h2.d.t.d, slV h2.d.t.a, .int .i64 h2.d.t.n.ow, .int .i32 h2.d.t.n.ve, .int .i32 h2.d.t.n.cr, .bool h2.d.t.n.qh, .int .i64 h2.d.t.n.qc, .int .i64 h2.d.t.n.qb, .int .i64 h2.d.t.n.si, .int .i32 h2.d.t.n.st, slV h2.d.t.i, slV h2.d.t.p, .int .i32 h2.d.t.n.co, slV h2.d.t.s, .int .i32 h2.r.xi, .int .i64 h2.r.zx, .int .i32 h2.r.co, .int .i32 h2.r.r.n.ty, .int .i32 h2.r.r.n.co, .string h2.r.r.n.path, .int .i64 h2.r.r.n.q.a, .int .i64 h2.r.r.n.q.b, .int .i64 h2.r.r.n.q.c, .int .i64 h2.r.r.n.q.d, .int .i32 h2.r.r.n.q.e, .int .i32 h2.r.r.n.q.f, .int .i32 h2.r.r.n.q.g, .int .i64 h2.r.r.n.q.h, .int .i32 h2.r.r.n.q.i, .int .i32 h2.r.r.n.q.j, .int .i64 h2.r.r.n.q.k, slV h2.r.r.d, slV h2.r.r.a, slV h2.r.r.m, .int .i32 h2.r.r.n.ct, .int .i64 h2.r.r.n.si, .int .i32 h2.r.r.n.st, slV h2.r.r.i, slV h2.r.r.s] 63))
          clear HP HTW hs hz1 hz2
          have HTW := Lib.hid (htw2.later (show Below w5.heap.size w5 (w5.alloc (.cells #[.int .i64 h2.d.se, .int .i32 h2.d.xi, .int .i64 h2.d.zx, .int .i64 h2.d.ti, .int .i32 h2.d.t.n.ty, .string h2.d.t.n.path, slV h2.d.t.d, slV h2.d.t.a, .int .i64 h2.d.t.n.ow, .int .i32 h2.d.t.n.ve, .int .i32 h2.d.t.n.cr, .bool h2.d.t.n.qh, .int .i64 h2.d.t.n.qc, .int .i64 h2.d.t.n.qb, .int .i64 h2.d.t.n.si, .int .i32 h2.d.t.n.st, slV h2.d.t.i, slV h2.d.t.p, .int .i32 h2.d.t.n.co, slV h2.d.t.s, .int .i32 h2.r.xi, .int .i64 h2.r.zx, .int .i32 h2.r.co, .int .i32 h2.r.r.n.ty, .int .i32 h2.r.r.n.co, .string h2.r.r.n.path, .int .i64 h2.r.r.n.q.a, .int .i64 h2.r.r.n.q.b, .int .i64 h2.r.r.n.q.c, .int .i64 h2.r.r.n.q.d, .int .i32 h2.r.r.n.q.e, .int .i32 h2.r.r.n.q.f, .int .i32 h2.r.r.n.q.g, .int .i64 h2.r.r.n.q.h, .int .i32 h2.r.r.n.q.i, .int .i32 h2.r.r.n.q.j, .int .i64 h2.r.r.n.q.k, slV h2.r.r.d, slV h2.r.r.a, slV h2.r.r.m, .int .i32 h2.r.r.n.ct, .int .i64 h2.r.r.n.si, .int .i32 h2.r.r.n.st, slV h2.r.r.i, slV h2.r.r.s] 63)) from (Below.refl _ w5).alloc (Nat.le_refl _) _))
          clear htw2
          go_upto_region 32 with (apply wpList_storeTop 63 63; exact rfl; exact rfl; exact rfl; (first | (with_reducible rfl) | (exact sz1 _ _) | (exact sz2 _ _ _) | (exact sz3 _ _ _ _)); exact rfl; exact infPr; exact rfl; (first | exact onePr _ | simp [Value.oneCell']))
          generalize w5.alloc (.cells #[.int .i64 h2.d.se, .int .i32 h2.d.xi, .int .i64 h2.d.zx, .int .i64 h2.d.ti, .int .i32 h2.d.t.n.ty, .string h2.d.t.n.path, slV h2.d.t.d, slV h2.d.t.a, .int .i64 h2.d.t.n.ow, .int .i32 h2.d.t.n.ve, .int .i32 h2.d.t.n.cr, .bool h2.d.t.n.qh, .int .i64 h2.d.t.n.qc, .int .i64 h2.d.t.n.qb, .int .i64 h2.d.t.n.si, .int .i32 h2.d.t.n.st, slV h2.d.t.i, slV h2.d.t.p, .int .i32 h2.d.t.n.co, slV h2.d.t.s, .int .i32 h2.r.xi, .int .i64 h2.r.zx, .int .i32 h2.r.co, .int .i32 h2.r.r.n.ty, .int .i32 h2.r.r.n.co, .string h2.r.r.n.path, .int .i64 h2.r.r.n.q.a, .int .i64 h2.r.r.n.q.b, .int .i64 h2.r.r.n.q.c, .int .i64 h2.r.r.n.q.d, .int .i32 h2.r.r.n.q.e, .int .i32 h2.r.r.n.q.f, .int .i32 h2.r.r.n.q.g, .int .i64 h2.r.r.n.q.h, .int .i32 h2.r.r.n.q.i, .int .i32 h2.r.r.n.q.j, .int .i64 h2.r.r.n.q.k, slV h2.r.r.d, slV h2.r.r.a, slV h2.r.r.m, .int .i32 h2.r.r.n.ct, .int .i64 h2.r.r.n.si, .int .i32 h2.r.r.n.st, slV h2.r.r.i, slV h2.r.r.s] 63) = W2 at *
          generalize w5.heap.size = g2 at *
          have HP := Lib.hid (commW HTW.out.hb HTW.out.ib)
          unfold CommW at HP
          rw [HWC.out, HR1.out] at HP
          go_wp2_with fail
          refine HP.out.mono ?_
          rintro e w6 ⟨⟨h3, rfl, hz1, hz2⟩, hs⟩
          have hc1 : w6.cell? ⟨g2, 2, none⟩ = some (.int .i64 (comZ st)) := by
            rw [hs.2.cell (p := ⟨g2, 2, none⟩) (by have := HS.out; show g2 < W2.heap.size; omega) HNX.out.2, cellH HG2.out, ← HZ.out]; rfl
          have HZ2 := Lib.hid (show h3.d.zx = comZ st from by
            have h := commZ (sa := wtd weight st) (fun h => ⟨_, hz1 (by rwa [HR1.out] at h)⟩) (fun h => hz2 (by rwa [HR1.out] at h))
            rw [h]; unfold comZ; rw [HR1.out]; rfl)
          obtain ⟨xb2, Rb2, htw2⟩ := HTW.out.stepB hs (wtd_inv weight HPI.out.1)
          have HG3 := Lib.hid (heap_s0 w6 (.cells #[.int .i64 h3.d.se, .int .i32 h3.d.xi, .int .i64 h3.d.zx, .int .i64 h3.d.ti, .int .i32 h3.d.t.n.ty, .string h3.d.t.n.path, slV h3.d.t.d, slV h3.d.t.a, .int .i64 h3.d.t.n.ow, .int .i32 h3.d.t.n.ve, .int .i32 h3.d.t.n.cr, .bool h3.d.t.n.qh, .int .i64 h3.d.t.n.qc, .int .i64 h3.d.t.n.qb, .int .i64 h3.d.t.n.si, .int .i32 h3.d.t.n.st, slV h3.d.t.i, slV h3.d.t.p, .int .i32 h3.d.t.n.co, slV h3.d.t.s, .int .i32 h3.r.xi, .int .i64 h3.r.zx, .int .i32 h3.r.co, .int .i32 h3.r.r.n.ty, .int .i32 h3.r.r.n.co, .string h3.r.r.n.path, .int .i64 h3.r.r.n.q.a, .int .i64 h3.r.r.n.q.b, .int .i64 h3.r.r.n.q.c, .int .i64 h3.r.r.n.q.d, .int .i32 h3.r.r.n.q.e, .int .i32 h3.r.r.n.q.f, .int .i32 h3.r.r.n.q.g, .int .i64 h3.r.r.n.q.h, .int .i32 h3.r.r.n.q.i, .int .i32 h3.r.r.n.q.j, .int .i64 h3.r.r.n.q.k, slV h3.r.r.d, slV h3.r.r.a, slV h3.r.r.m, .int .i32 h3.r.r.n.ct, .int .i64 h3.r.r.n.si, .int .i32 h3.r.r.n.st, slV h3.r.r.i, slV h3.r.r.s] 63))
          have hb2 : Below w6.heap.size w6 (w6.alloc (.cells #[.int .i64 h3.d.se, .int .i32 h3.d.xi, .int .i64 h3.d.zx, .int .i64 h3.d.ti, .int .i32 h3.d.t.n.ty, .string h3.d.t.n.path, slV h3.d.t.d, slV h3.d.t.a, .int .i64 h3.d.t.n.ow, .int .i32 h3.d.t.n.ve, .int .i32 h3.d.t.n.cr, .bool h3.d.t.n.qh, .int .i64 h3.d.t.n.qc, .int .i64 h3.d.t.n.qb, .int .i64 h3.d.t.n.si, .int .i32 h3.d.t.n.st, slV h3.d.t.i, slV h3.d.t.p, .int .i32 h3.d.t.n.co, slV h3.d.t.s, .int .i32 h3.r.xi, .int .i64 h3.r.zx, .int .i32 h3.r.co, .int .i32 h3.r.r.n.ty, .int .i32 h3.r.r.n.co, .string h3.r.r.n.path, .int .i64 h3.r.r.n.q.a, .int .i64 h3.r.r.n.q.b, .int .i64 h3.r.r.n.q.c, .int .i64 h3.r.r.n.q.d, .int .i32 h3.r.r.n.q.e, .int .i32 h3.r.r.n.q.f, .int .i32 h3.r.r.n.q.g, .int .i64 h3.r.r.n.q.h, .int .i32 h3.r.r.n.q.i, .int .i32 h3.r.r.n.q.j, .int .i64 h3.r.r.n.q.k, slV h3.r.r.d, slV h3.r.r.a, slV h3.r.r.m, .int .i32 h3.r.r.n.ct, .int .i64 h3.r.r.n.si, .int .i32 h3.r.r.n.st, slV h3.r.r.i, slV h3.r.r.s] 63)) := (Below.refl _ w6).alloc (Nat.le_refl _) _
          have hd1 := keep1 hc1 hb2
          have HF := Lib.hid (show TwoW w (w6.alloc (.cells #[.int .i64 h3.d.se, .int .i32 h3.d.xi, .int .i64 h3.d.zx, .int .i64 h3.d.ti, .int .i32 h3.d.t.n.ty, .string h3.d.t.n.path, slV h3.d.t.d, slV h3.d.t.a, .int .i64 h3.d.t.n.ow, .int .i32 h3.d.t.n.ve, .int .i32 h3.d.t.n.cr, .bool h3.d.t.n.qh, .int .i64 h3.d.t.n.qc, .int .i64 h3.d.t.n.qb, .int .i64 h3.d.t.n.si, .int .i32 h3.d.t.n.st, slV h3.d.t.i, slV h3.d.t.p, .int .i32 h3.d.t.n.co, slV h3.d.t.s, .int .i32 h3.r.xi, .int .i64 h3.r.zx, .int .i32 h3.r.co, .int .i32 h3.r.r.n.ty, .int .i32 h3.r.r.n.co, .string h3.r.r.n.path, .int .i64 h3.r.r.n.q.a, .int .i64 h3.r.r.n.q.b, .int .i64 h3.r.r.n.q.c, .int .i64 h3.r.r.n.q.d, .int .i32 h3.r.r.n.q.e, .int .i32 h3.r.r.n.q.f, .int .i32 h3.r.r.n.q.g, .int .i64 h3.r.r.n.q.h, .int .i32 h3.r.r.n.q.i, .int .i32 h3.r.r.n.q.j, .int .i64 h3.r.r.n.q.k, slV h3.r.r.d, slV h3.r.r.a, slV h3.r.r.m, .int .i32 h3.r.r.n.ct, .int .i64 h3.r.r.n.si, .int .i32 h3.r.r.n.st, slV h3.r.r.i, slV h3.r.r.s] 63)) ba bb weight (commT st) from ⟨HPI.out.2, _, _, _, _, htw2.later hb2⟩)
          clear HP HTW hs hz1 hz2 hc1 htw2 hb2 HG2 HS HNX HWC HPI HR1
          generalize rdN st = rd at *
          go_upto_region 33 with (apply wpList_storeTop 63 63; exact rfl; exact rfl; exact rfl; (first | (with_reducible rfl) | (exact sz1 _ _) | (exact sz2 _ _ _) | (exact sz3 _ _ _ _)); exact rfl; exact infPr; exact rfl; (first | exact onePr _ | simp [Value.oneCell']))
          generalize w6.alloc (.cells #[.int .i64 h3.d.se, .int .i32 h3.d.xi, .int .i64 h3.d.zx, .int .i64 h3.d.ti, .int .i32 h3.d.t.n.ty, .string h3.d.t.n.path, slV h3.d.t.d, slV h3.d.t.a, .int .i64 h3.d.t.n.ow, .int .i32 h3.d.t.n.ve, .int .i32 h3.d.t.n.cr, .bool h3.d.t.n.qh, .int .i64 h3.d.t.n.qc, .int .i64 h3.d.t.n.qb, .int .i64 h3.d.t.n.si, .int .i32 h3.d.t.n.st, slV h3.d.t.i, slV h3.d.t.p, .int .i32 h3.d.t.n.co, slV h3.d.t.s, .int .i32 h3.r.xi, .int .i64 h3.r.zx, .int .i32 h3.r.co, .int .i32 h3.r.r.n.ty, .int .i32 h3.r.r.n.co, .string h3.r.r.n.path, .int .i64 h3.r.r.n.q.a, .int .i64 h3.r.r.n.q.b, .int .i64 h3.r.r.n.q.c, .int .i64 h3.r.r.n.q.d, .int .i32 h3.r.r.n.q.e, .int .i32 h3.r.r.n.q.f, .int .i32 h3.r.r.n.q.g, .int .i64 h3.r.r.n.q.h, .int .i32 h3.r.r.n.q.i, .int .i32 h3.r.r.n.q.j, .int .i64 h3.r.r.n.q.k, slV h3.r.r.d, slV h3.r.r.a, slV h3.r.r.m, .int .i32 h3.r.r.n.ct, .int .i64 h3.r.r.n.si, .int .i32 h3.r.r.n.st, slV h3.r.r.i, slV h3.r.r.s] 63) = W3 at *
          have hd2 : W3.cell? ⟨w6.heap.size, 2, none⟩ = some (.int .i64 (comZ st)) := by
            rw [cellH HG3.out, ← HZ2.out]; rfl
          generalize comZ st = cz at *
          generalize w6.heap.size = g3 at *
          clear HZ HZ2 HG3
          go_wp2_with fail
          go_roundw
          case rel => exact ⟨j + 1, commT st, by go_num, HJ.out, HF.out⟩
          case measure => simp [intOf]; have := HJ.out; omega
        · have u3 : (kd == 3) = false := beq_eq_false_iff_ne.2 hk3
          clear hk3
          by_cases hk4 : kd = 4
          · have t4 : (kd == 4) = true := by rw [hk4]; rfl
            clear hk4 HG HGL
            have HP := Lib.hid (clearW HTW.out.ha HTW.out.ia)
            have HWC := Lib.hid (wtd_clear st weight)
            have HPI := Lib.hid (And.intro (clearS_inv HTW.out.ia) (EqVs.clear HEQ.out))
            go_wp2_with fail
            refine HP.out.mono ?_
            rintro e w5 ⟨⟨A5, c5, Hs, rfl, -, -, -⟩, hs⟩
            obtain ⟨xa2, Ra2, htw2⟩ := HTW.out.step hs HPI.out.1
            clear HP HTW hs
            have HTW := Lib.hid htw2; clear htw2
            have HP := Lib.hid (clearW HTW.out.hb HTW.out.ib)
            unfold ClearW at HP
            rw [HWC.out, show (wtd weight st).L = st.L from rfl] at HP
            go_wp2_with fail
            refine HP.out.mono ?_
            rintro e w6 ⟨⟨A6, c6, Hs6, rfl, -, -, -⟩, hs⟩
            obtain ⟨xb2, Rb2, htw2⟩ := HTW.out.stepB hs (wtd_inv weight HPI.out.1)
            have HF := Lib.hid (show TwoW w w6 ba bb weight (clearS st) from ⟨HPI.out.2, _, _, _, _, htw2⟩)
            clear HP HTW hs htw2 HWC HPI
            generalize st.L.length = ln at *
            go_wp2_with fail
            go_roundw
            case rel => exact ⟨j + 1, clearS st, by go_num, HJ.out, HF.out⟩
            case measure => simp [intOf]; have := HJ.out; omega
          · have u4 : (kd == 4) = false := beq_eq_false_iff_ne.2 hk4
            clear hk4
            have HF := Lib.hid (show TwoW w W ba bb weight st from ⟨HEQ.out, _, _, _, _, HTW.out⟩)
            clear HTW HG HGL
            go_wp2_with fail
            go_roundw
            case rel => exact ⟨j + 1, st, by go_num, HJ.out, HF.out⟩
            case measure => simp [intOf]; have := HJ.out; omega
  · obtain rfl : j = n0 := by omega
    go_wp2_with fail
    have HR := Lib.hid (readyW HTW.out.ha HTW.out.ia)
    have hre := wtd_ready HV.out.2.2.1 HV.out.2.2.2 HTW.out.ia HEQ.out
    refine HR.out.mono ?_
    rintro e w5 ⟨rfl, hb⟩
    replace HTW := Lib.hid (HTW.out.later hb); clear hb HR
    have HR := Lib.hid (readyW HTW.out.hb HTW.out.ib)
    rw [hre] at HR
    clear hre
    go_wp2_with fail
    refine HR.out.mono ?_
    rintro e w6 ⟨rfl, hb⟩
    replace HTW := Lib.hid (HTW.out.later hb); clear hb HR
    generalize rdN st = rd at *
    go_wp2_with fail
    refine (queLast_any _ _ _ _ _ HTW.out.ha.q).mono ?_
    rintro e w7 ⟨rfl, q7, rfl⟩
    replace HTW := Lib.hid (HTW.out.later (drewN_self w6 q7))
    generalize w6.drewN q7 = w7 at *
    go_wp2_with fail
    refine (queLast_any _ _ _ _ _ HTW.out.hb.q).mono ?_
    rintro e w8 ⟨rfl, q8, rfl⟩
    replace HTW := Lib.hid (HTW.out.later (drewN_self _ q8))
    have tl : (st.last == (wtd weight st).last) = true := beq_self_eq_true _
    generalize (wtd weight st).last = la2 at *
    generalize st.last = la at *
    go_wp2_with fail
    go_ret
    exact RetB.mk HTW.out.b rfl
end Go.Proofs.YtbpmmmnphpkdjaaGreatDoor

/- The walks of the document's own and Right of a delta. Condition: bulk at most 2^20. -/
import Derived.Test.YthpjneobmmpbnaaGreatDoorDRfC
import Derived.Test.YthpjneobmmpbnaaGreatDoorDDlC
import Derived.Test.YthpjneobmmpbnaaGreatDoorDHeld
import Derived.Test.YthpjneobmmpbnaaGreatDoorDRfF
import Derived.Deep.CutBlock
import Derived.Test.YthpjneobmmpbnaaGreatDoorDRfK
namespace Go.Proofs.YthpjneobmmpbnaaGreatDoor
open Go.RowKit Go.MapKept
set_option maxRecDepth 100000 in
set_option maxHeartbeats 8000000 in
theorem refOwn_any (z : Int) (h : TxH) (v : TxF) (w : World) (R : Nat → Prop) (hv : locTx w R h v) (hsm : TxSm 1048576 v h.s.2.1) (hz : in64 z) :
    Calls Tryz.prog 54 #[txV h, .int .i64 z] w (OwnEP z v h.s.2.1 w) := by
  have HR := Lib.hid (show ownE z v h.s.2.1 = if namedB v then 30 else if greatB v h.s.2.1 then 3 else if (spareB v h.s.2.1 || oddR z v) then 1 else 0 by rw [odd_ref]; rfl)
  have HCN := Lib.hid (fun W (hW : Below w.heap.size w W) => refNamed_any h v W _ (hv.down hW) hsm)
  have HCG := Lib.hid (fun W (hW : Below w.heap.size w W) => refGreat_any h v W _ (hv.down hW) hsm)
  have HCS := Lib.hid (fun W (hW : Below w.heap.size w W) => refSpare_any h v W _ (hv.down hW))
  have HCO := Lib.hid (fun W (hW : Below w.heap.size w W) => refOdd_any z h v W _ (hv.down hW) hsm hz)
  have hb0 : Below w.heap.size w (w.alloc (.cells #[.int .i32 h.n.ty, .string h.n.path, slV h.d, slV h.a, .int .i64 h.n.ow, .int .i32 h.n.ve, .int .i32 h.n.cr, .bool h.n.qh, .int .i64 h.n.qc, .int .i64 h.n.qb, .int .i64 h.n.si, .int .i32 h.n.st, slV h.i, slV h.p, .int .i32 h.n.co, slV h.s] 33)) := (Below.refl _ w).alloc (Nat.le_refl _) _
  have hg0 := heap_s0 w (.cells #[.int .i32 h.n.ty, .string h.n.path, slV h.d, slV h.a, .int .i64 h.n.ow, .int .i32 h.n.ve, .int .i32 h.n.cr, .bool h.n.qh, .int .i64 h.n.qc, .int .i64 h.n.qb, .int .i64 h.n.si, .int .i32 h.n.st, slV h.i, slV h.p, .int .i32 h.n.co, slV h.s] 33)
  have HZ := Lib.hid (sz1 w (.cells #[.int .i32 h.n.ty, .string h.n.path, slV h.d, slV h.a, .int .i64 h.n.ow, .int .i32 h.n.ve, .int .i32 h.n.cr, .bool h.n.qh, .int .i64 h.n.qc, .int .i64 h.n.qb, .int .i64 h.n.si, .int .i32 h.n.st, slV h.i, slV h.p, .int .i32 h.n.co, slV h.s] 33))
  have HB := Lib.hid hb0
  clear hb0 hv hsm hz
  unfold txV
  go_enter Tryz.func54, Tryz.ntmps54
  go_upto_region 1 with fail
  generalize w.alloc (.cells #[.int .i32 h.n.ty, .string h.n.path, slV h.d, slV h.a, .int .i64 h.n.ow, .int .i32 h.n.ve, .int .i32 h.n.cr, .bool h.n.qh, .int .i64 h.n.qc, .int .i64 h.n.qb, .int .i64 h.n.si, .int .i32 h.n.st, slV h.i, slV h.p, .int .i32 h.n.co, slV h.s] 33) = W at *
  go_wp2_with (first | (apply wpList_loadRow 33 33; exact rfl; exact rfl; exact rfl; (first | assumption | (refine heap_under ?_; assumption) | (exact heap_s0 _ _) | (exact heap_s1 _ _ _) | (exact heap_s2 _ _ _ _) | (exact heap_s3 _ _ _ _ _) | (exact heap_under (heap_s0 _ _)) | (exact heap_under (heap_s1 _ _ _)) | (exact heap_under (heap_s2 _ _ _ _)) | (exact heap_under (heap_under (heap_s0 _ _))) | (exact heap_under (heap_under (heap_s1 _ _ _))) | (exact heap_under (heap_under (heap_under (heap_s0 _ _))))); exact undTx; exact rfl; exact infTx) | fail)
  refine (HCN.out W HB.out).mono ?_
  rintro e w1 ⟨rfl, hb⟩
  have hg1 := (hb.block w.heap.size (by have := HZ.out; omega)).trans hg0
  have HZ1 := Lib.hid (show w.heap.size < w1.heap.size by have := HZ.out; have := hb.size; omega)
  have HB1 := Lib.hid (HB.out.trans (hb.mono HB.out.size))
  clear hb hg0 HCN
  cases hn : namedB v with
  | true =>
    have hne : nameE v = 30 := by unfold nameE; rw [hn]; rfl
    have HN := Lib.hid (show ownE z v h.s.2.1 = 30 by rw [HR.out, hn]; rfl)
    rw [hne]
    clear hn hne
    go_wp2_with fail
    go_ret
    exact OwnEP.mk HB1.out HN.out
  | false =>
    have hne : nameE v = 0 := by unfold nameE; rw [hn]; rfl
    rw [hn] at HR
    rw [hne]
    clear hn hne
    go_wp2_with (first | (apply wpList_loadRow 33 33; exact rfl; exact rfl; exact rfl; (first | assumption | (refine heap_under ?_; assumption) | (exact heap_s0 _ _) | (exact heap_s1 _ _ _) | (exact heap_s2 _ _ _ _) | (exact heap_s3 _ _ _ _ _) | (exact heap_under (heap_s0 _ _)) | (exact heap_under (heap_s1 _ _ _)) | (exact heap_under (heap_s2 _ _ _ _)) | (exact heap_under (heap_under (heap_s0 _ _))) | (exact heap_under (heap_under (heap_s1 _ _ _))) | (exact heap_under (heap_under (heap_under (heap_s0 _ _))))); exact undTx; exact rfl; exact infTx) | fail)
    refine (HCG.out w1 HB1.out).mono ?_
    rintro e w2 ⟨rfl, hb⟩
    have hg2 := (hb.block w.heap.size HZ1.out).trans hg1
    have HZ2 := Lib.hid (show w.heap.size < w2.heap.size by have := HZ1.out; have := hb.size; omega)
    have HB2 := Lib.hid (HB1.out.trans (hb.mono HB1.out.size))
    clear hb hg1 HCG
    cases hq : greatB v h.s.2.1 with
    | true =>
      have HN := Lib.hid (show ownE z v h.s.2.1 = 3 by rw [HR.out, hq]; rfl)
      clear hq
      go_wp2_with fail
      go_ret
      exact OwnEP.mk HB2.out HN.out
    | false =>
      rw [hq] at HR
      clear hq
      go_wp2_with (first | (apply wpList_loadRow 33 33; exact rfl; exact rfl; exact rfl; (first | assumption | (refine heap_under ?_; assumption) | (exact heap_s0 _ _) | (exact heap_s1 _ _ _) | (exact heap_s2 _ _ _ _) | (exact heap_s3 _ _ _ _ _) | (exact heap_under (heap_s0 _ _)) | (exact heap_under (heap_s1 _ _ _)) | (exact heap_under (heap_s2 _ _ _ _)) | (exact heap_under (heap_under (heap_s0 _ _))) | (exact heap_under (heap_under (heap_s1 _ _ _))) | (exact heap_under (heap_under (heap_under (heap_s0 _ _))))); exact undTx; exact rfl; exact infTx) | fail)
      refine (HCS.out w2 HB2.out).mono ?_
      rintro e w3 ⟨rfl, hb⟩
      have hg3 := (hb.block w.heap.size HZ2.out).trans hg2
      have HB3 := Lib.hid (HB2.out.trans (hb.mono HB2.out.size))
      clear hb hg2 HCS
      cases hs : spareB v h.s.2.1 with
      | true =>
        have HN := Lib.hid (show ownE z v h.s.2.1 = 1 by rw [HR.out, hs]; rfl)
        clear hs
        go_wp2_with fail
        go_ret
        exact OwnEP.mk HB3.out HN.out
      | false =>
        rw [hs, Bool.false_or] at HR
        clear hs
        have q0 : w3.cell? ⟨w.heap.size, 0, none⟩ = some (.int .i32 h.n.ty) := by rw [cellH hg3]; rfl
        have q1 : w3.cell? ⟨w.heap.size, 1, none⟩ = some (.string h.n.path) := by rw [cellH hg3]; rfl
        have q2 : w3.cell? ⟨w.heap.size, 2, none⟩ = some (slV h.d) := by rw [cellH hg3]; rfl
        have q3 : w3.cell? ⟨w.heap.size, 3, none⟩ = some (slV h.a) := by rw [cellH hg3]; rfl
        have q4 : w3.cell? ⟨w.heap.size, 4, none⟩ = some (.int .i64 h.n.ow) := by rw [cellH hg3]; rfl
        have q5 : w3.cell? ⟨w.heap.size, 5, none⟩ = some (.int .i32 h.n.ve) := by rw [cellH hg3]; rfl
        have q6 : w3.cell? ⟨w.heap.size, 6, none⟩ = some (.int .i32 h.n.cr) := by rw [cellH hg3]; rfl
        have q7 : w3.cell? ⟨w.heap.size, 7, none⟩ = some (.bool h.n.qh) := by rw [cellH hg3]; rfl
        have q8 : w3.cell? ⟨w.heap.size, 8, none⟩ = some (.int .i64 h.n.qc) := by rw [cellH hg3]; rfl
        have q9 : w3.cell? ⟨w.heap.size, 9, none⟩ = some (.int .i64 h.n.qb) := by rw [cellH hg3]; rfl
        have q10 : w3.cell? ⟨w.heap.size, 10, none⟩ = some (.int .i64 h.n.si) := by rw [cellH hg3]; rfl
        have q11 : w3.cell? ⟨w.heap.size, 11, none⟩ = some (.int .i32 h.n.st) := by rw [cellH hg3]; rfl
        have q12 : w3.cell? ⟨w.heap.size, 12, none⟩ = some (slV h.i) := by rw [cellH hg3]; rfl
        have q13 : w3.cell? ⟨w.heap.size, 13, none⟩ = some (slV h.p) := by rw [cellH hg3]; rfl
        have q14 : w3.cell? ⟨w.heap.size, 14, none⟩ = some (.int .i32 h.n.co) := by rw [cellH hg3]; rfl
        have q15 : w3.cell? ⟨w.heap.size, 15, none⟩ = some (slV h.s) := by rw [cellH hg3]; rfl
        go_wp2_with fail
        refine (HCO.out w3 HB3.out).mono ?_
        rintro e w4 ⟨rfl, hb⟩
        have HB4 := Lib.hid (HB3.out.trans (hb.mono HB3.out.size))
        clear hb hg3 HCO
        cases ho : oddR z v with
        | true =>
          have HN := Lib.hid (show ownE z v h.s.2.1 = 1 by rw [HR.out, ho]; rfl)
          clear ho
          go_wp2_with fail
          go_ret
          exact OwnEP.mk HB4.out HN.out
        | false =>
          have HN := Lib.hid (show ownE z v h.s.2.1 = 0 by rw [HR.out, ho]; rfl)
          clear ho
          go_wp2_with fail
          go_ret
          exact OwnEP.mk HB4.out HN.out
set_option linter.unusedSimpArgs false in
set_option maxRecDepth 100000 in
set_option maxHeartbeats 20000000 in
theorem refRight_any (h : DlH) (d : DlT) (w : World) (R : Nat → Prop) (hd : DlAt w R h d) (hsm : DlSm 1048576 d) : Calls Tryz.prog 21 #[dlV h] w (RgtP d w) := by
  obtain ⟨⟨e0, e1, e2, e3⟩, ht⟩ := hd
  obtain ⟨⟨_, _, q2, _⟩, hok⟩ := hsm
  have hl := ht.loc
  obtain ⟨L, hL, hsub⟩ := ht.subs_at
  have hn := hl.1
  have hlen := ht.len
  have HO := Lib.hid (fun W (hW : Below w.heap.size w W) => refOwn_any h.zx h.t d.t.v W _ (hl.down hW) (by have := hok.top; rw [hlen] at this; exact this) (by rw [← e2]; exact q2))
  have HS := Lib.hid (fun (W : World) (hW : Below w.heap.size w W) (k : Nat) (hk : k < h.t.s.2.1) => refOwn_any h.zx L[k]! d.t.subs[k]!.v W _ ((hsub k hk).loc.down hW) (by have := (hok.subAt (j := k) (by rw [hlen]; exact hk)).top; rw [(hsub k hk).len] at this; exact this) (by rw [← e2]; exact q2))
  have HLC := Lib.hid (fun (k : Nat) (hk : k < h.t.s.2.1) => (hsub k hk).loc.1)
  have HLN := Lib.hid (fun (k : Nat) (hk : k < h.t.s.2.1) => (hsub k hk).len)
  have HL := Lib.hid hL; have HLEN := Lib.hid hlen
  have HR := Lib.hid (show rightE d = if !knownB h.t.n.ty then 110 else if h.zx < 1 then 1 else if ownE h.zx d.t.v h.t.s.2.1 ≠ 0 then ownE h.zx d.t.v h.t.s.2.1 else subsE h.zx d.t.subs by unfold rightE; rw [hn, hlen, e2])
  have HSB := Lib.hid (show h.t.s.2.1 ≤ 1048576 by have := hok.top.2.2.2.2.2.2.1; rw [hlen] at this; exact this)
  have HFE := Lib.hid (fields_empty h.t.n.ty)
  clear ht hok hl hL hsub hlen hn e0 e1 e2 e3 q2
  have hb0 : Below w.heap.size w (w.alloc (.cells #[.int .i64 h.se, .int .i32 h.xi, .int .i64 h.zx, .int .i64 h.ti, .int .i32 h.t.n.ty, .string h.t.n.path, slV h.t.d, slV h.t.a, .int .i64 h.t.n.ow, .int .i32 h.t.n.ve, .int .i32 h.t.n.cr, .bool h.t.n.qh, .int .i64 h.t.n.qc, .int .i64 h.t.n.qb, .int .i64 h.t.n.si, .int .i32 h.t.n.st, slV h.t.i, slV h.t.p, .int .i32 h.t.n.co, slV h.t.s] 35)) := (Below.refl _ w).alloc (Nat.le_refl _) _
  have HG0 := Lib.hid (heap_s0 w (.cells #[.int .i64 h.se, .int .i32 h.xi, .int .i64 h.zx, .int .i64 h.ti, .int .i32 h.t.n.ty, .string h.t.n.path, slV h.t.d, slV h.t.a, .int .i64 h.t.n.ow, .int .i32 h.t.n.ve, .int .i32 h.t.n.cr, .bool h.t.n.qh, .int .i64 h.t.n.qc, .int .i64 h.t.n.qb, .int .i64 h.t.n.si, .int .i32 h.t.n.st, slV h.t.i, slV h.t.p, .int .i32 h.t.n.co, slV h.t.s] 35))
  have HZ0 := Lib.hid (sz1 w (.cells #[.int .i64 h.se, .int .i32 h.xi, .int .i64 h.zx, .int .i64 h.ti, .int .i32 h.t.n.ty, .string h.t.n.path, slV h.t.d, slV h.t.a, .int .i64 h.t.n.ow, .int .i32 h.t.n.ve, .int .i32 h.t.n.cr, .bool h.t.n.qh, .int .i64 h.t.n.qc, .int .i64 h.t.n.qb, .int .i64 h.t.n.si, .int .i32 h.t.n.st, slV h.t.i, slV h.t.p, .int .i32 h.t.n.co, slV h.t.s] 35))
  have HB := Lib.hid hb0
  have y1 : (w.alloc (.cells #[.int .i64 h.se, .int .i32 h.xi, .int .i64 h.zx, .int .i64 h.ti, .int .i32 h.t.n.ty, .string h.t.n.path, slV h.t.d, slV h.t.a, .int .i64 h.t.n.ow, .int .i32 h.t.n.ve, .int .i32 h.t.n.cr, .bool h.t.n.qh, .int .i64 h.t.n.qc, .int .i64 h.t.n.qb, .int .i64 h.t.n.si, .int .i32 h.t.n.st, slV h.t.i, slV h.t.p, .int .i32 h.t.n.co, slV h.t.s] 35)).rangeAt w.heap.size 4 [.int .i32 h.t.n.ty, .string h.t.n.path, slV h.t.d, slV h.t.a, .int .i64 h.t.n.ow, .int .i32 h.t.n.ve, .int .i32 h.t.n.cr, .bool h.t.n.qh, .int .i64 h.t.n.qc, .int .i64 h.t.n.qb, .int .i64 h.t.n.si, .int .i32 h.t.n.st, slV h.t.i, slV h.t.p, .int .i32 h.t.n.co, slV h.t.s] := rangeAt_heap (pre := [.int .i64 h.se, .int .i32 h.xi, .int .i64 h.zx, .int .i64 h.ti]) (mid := [.int .i32 h.t.n.ty, .string h.t.n.path, slV h.t.d, slV h.t.a, .int .i64 h.t.n.ow, .int .i32 h.t.n.ve, .int .i32 h.t.n.cr, .bool h.t.n.qh, .int .i64 h.t.n.qc, .int .i64 h.t.n.qb, .int .i64 h.t.n.si, .int .i32 h.t.n.st, slV h.t.i, slV h.t.p, .int .i32 h.t.n.co, slV h.t.s]) (post := []) HG0.out rfl rfl
  clear hb0
  unfold dlV
  go_enter Tryz.func21, Tryz.ntmps21
  go_upto_region 1 with fail
  generalize w.alloc (.cells #[.int .i64 h.se, .int .i32 h.xi, .int .i64 h.zx, .int .i64 h.ti, .int .i32 h.t.n.ty, .string h.t.n.path, slV h.t.d, slV h.t.a, .int .i64 h.t.n.ow, .int .i32 h.t.n.ve, .int .i32 h.t.n.cr, .bool h.t.n.qh, .int .i64 h.t.n.qc, .int .i64 h.t.n.qb, .int .i64 h.t.n.si, .int .i32 h.t.n.st, slV h.t.i, slV h.t.p, .int .i32 h.t.n.co, slV h.t.s] 35) = W at *
  have HZ1 := Lib.hid (sz1 W (.cells #[.int .i32 h.t.n.ty, .string h.t.n.path, slV h.t.d, slV h.t.a, .int .i64 h.t.n.ow, .int .i32 h.t.n.ve, .int .i32 h.t.n.cr, .bool h.t.n.qh, .int .i64 h.t.n.qc, .int .i64 h.t.n.qb, .int .i64 h.t.n.si, .int .i32 h.t.n.st, slV h.t.i, slV h.t.p, .int .i32 h.t.n.co, slV h.t.s] 33))
  have HG1 := Lib.hid (heap_s0 W (.cells #[.int .i32 h.t.n.ty, .string h.t.n.path, slV h.t.d, slV h.t.a, .int .i64 h.t.n.ow, .int .i32 h.t.n.ve, .int .i32 h.t.n.cr, .bool h.t.n.qh, .int .i64 h.t.n.qc, .int .i64 h.t.n.qb, .int .i64 h.t.n.si, .int .i32 h.t.n.st, slV h.t.i, slV h.t.p, .int .i32 h.t.n.co, slV h.t.s] 33))
  have hb1 : Below W.heap.size W (W.alloc (.cells #[.int .i32 h.t.n.ty, .string h.t.n.path, slV h.t.d, slV h.t.a, .int .i64 h.t.n.ow, .int .i32 h.t.n.ve, .int .i32 h.t.n.cr, .bool h.t.n.qh, .int .i64 h.t.n.qc, .int .i64 h.t.n.qb, .int .i64 h.t.n.si, .int .i32 h.t.n.st, slV h.t.i, slV h.t.p, .int .i32 h.t.n.co, slV h.t.s] 33)) := (Below.refl _ W).alloc (Nat.le_refl _) _
  have HB2 := Lib.hid (HB.out.trans (hb1.mono HB.out.size))
  have HG0' := Lib.hid ((hb1.block w.heap.size (by have := HZ0.out; omega)).trans HG0.out)
  have hW1 : W.heap.size = w.heap.size + 1 := HZ0.out
  clear hb1 HG0 HZ0 HB
  go_upto_region 2 with (first
    | (apply wpList_loadMid 33; exact rfl; exact rfl; exact rfl; exact y1; exact undTx; exact rfl; exact infTx)
    | (apply wpList_storeTop 33 33; exact rfl; exact rfl; exact rfl; (first | (with_reducible rfl) | (exact sz1 _ _) | (exact sz2 _ _ _) | (exact sz3 _ _ _ _)); exact rfl; exact infTx; exact rfl; simp [Value.oneCell'])
    | fail)
  clear y1
  generalize W.alloc (.cells #[.int .i32 h.t.n.ty, .string h.t.n.path, slV h.t.d, slV h.t.a, .int .i64 h.t.n.ow, .int .i32 h.t.n.ve, .int .i32 h.t.n.cr, .bool h.t.n.qh, .int .i64 h.t.n.qc, .int .i64 h.t.n.qb, .int .i64 h.t.n.si, .int .i32 h.t.n.st, slV h.t.i, slV h.t.p, .int .i32 h.t.n.co, slV h.t.s] 33) = W2 at *
  rw [hW1] at HG1 HZ1
  clear hW1
  generalize (Value.agg #[.int .i64 h.se, .int .i32 h.xi, .int .i64 h.zx, .int .i64 h.ti, .int .i32 h.t.n.ty, .string h.t.n.path, slV h.t.d, slV h.t.a, .int .i64 h.t.n.ow, .int .i32 h.t.n.ve, .int .i32 h.t.n.cr, .bool h.t.n.qh, .int .i64 h.t.n.qc, .int .i64 h.t.n.qb, .int .i64 h.t.n.si, .int .i32 h.t.n.st, slV h.t.i, slV h.t.p, .int .i32 h.t.n.co, slV h.t.s]) = arg0 at *
  have HD2 := Lib.hid (fun (V : World) (hV : Below W2.heap.size W2 V) => (show V.cell? ⟨w.heap.size, 2, none⟩ = some (.int .i64 h.zx) by rw [cellH ((hV.block _ (by have := HZ1.out; omega)).trans HG0'.out)]; rfl))
  have HD0 := Lib.hid (fun (V : World) (hV : Below W2.heap.size W2 V) => (show V.cell? ⟨w.heap.size + 1, 0, none⟩ = some (.int .i32 h.t.n.ty) by rw [cellH ((hV.block _ (by have := HZ1.out; omega)).trans HG1.out)]; rfl))
  have HD15 := Lib.hid (fun (V : World) (hV : Below W2.heap.size W2 V) => (show V.cell? ⟨w.heap.size + 1, 15, none⟩ = some (slV h.t.s) by rw [cellH ((hV.block _ (by have := HZ1.out; omega)).trans HG1.out)]; rfl))
  have x0 := HD0.out W2 (Below.refl _ _); have x2 := HD2.out W2 (Below.refl _ _)
  cases hkn : knownB h.t.n.ty with
  | false =>
    have HV := Lib.hid (show rightE d = 110 by rw [HR.out, hkn]; rfl)
    have hfe : (fieldsS h.t.n.ty).toList.isEmpty = true := by rw [HFE.out, hkn]; rfl
    clear hkn
    go_wp2_with fail
    refine (refFields_any _ _).mono ?_
    rintro e w1 ⟨rfl, rfl⟩
    go_wp2_with fail
    go_ret
    exact RgtP.mk HB2.out HV.out
  | true =>
  rw [hkn] at HR
  have hfe : (fieldsS h.t.n.ty).toList.isEmpty = false := by rw [HFE.out, hkn]; rfl
  clear hkn
  by_cases hz : h.zx < 1
  · have HV := Lib.hid (show rightE d = 1 by rw [HR.out, if_pos hz]; rfl)
    have d1 : decide (h.zx < 1) = true := decide_eq_true hz
    clear hz
    go_wp2_with fail
    refine (refFields_any _ _).mono ?_
    rintro e w1 ⟨rfl, rfl⟩
    go_wp2_with fail
    go_ret
    exact RgtP.mk HB2.out HV.out
  have HV := Lib.hid (show rightE d = if ownE h.zx d.t.v h.t.s.2.1 ≠ 0 then ownE h.zx d.t.v h.t.s.2.1 else subsE h.zx d.t.subs by rw [HR.out, if_neg hz]; rfl)
  have d1 : decide (h.zx < 1) = false := decide_eq_false hz
  clear HR hz
  go_wp2_with fail
  refine (refFields_any _ _).mono ?_
  rintro e W2 ⟨rfl, rfl⟩
  have hg1 := HG1.out
  go_wp2_with (first | (apply wpList_loadRow 33 33; exact rfl; exact rfl; exact rfl; (first | assumption | (refine heap_under ?_; assumption) | (exact heap_s0 _ _) | (exact heap_s1 _ _ _) | (exact heap_s2 _ _ _ _) | (exact heap_s3 _ _ _ _ _) | (exact heap_under (heap_s0 _ _)) | (exact heap_under (heap_s1 _ _ _)) | (exact heap_under (heap_s2 _ _ _ _)) | (exact heap_under (heap_under (heap_s0 _ _))) | (exact heap_under (heap_under (heap_s1 _ _ _))) | (exact heap_under (heap_under (heap_under (heap_s0 _ _))))); exact undTx; exact rfl; exact infTx) | fail)
  refine (HO.out W2 HB2.out).mono ?_
  rintro e w1 ⟨rfl, hb⟩
  have HB3 := Lib.hid hb
  clear hb hg1 x0 x2 HO
  by_cases ho : ownE h.zx d.t.v h.t.s.2.1 = 0
  case neg =>
    have HV2 := Lib.hid (show rightE d = ownE h.zx d.t.v h.t.s.2.1 by rw [HV.out, if_pos ho])
    generalize ownE h.zx d.t.v h.t.s.2.1 = x at *
    have d2 : (x != 0) = true := bne_iff_ne.2 ho
    go_wp2_with fail
    go_ret
    exact RgtP.mk (HB2.out.trans (HB3.out.mono HB2.out.size)) HV2.out
  have HV2 := Lib.hid (show rightE d = subsE h.zx d.t.subs by rw [HV.out, if_neg (by simp [ho])])
  rw [ho]
  clear ho HV hfe d1
  go_wp2_with fail
  go_loopw [5, 6] (fun i _ wr => ∃ k : Nat, i = .int .i64 ↑k ∧ k ≤ h.t.s.2.1 ∧ subsE h.zx (d.t.subs.drop k) = subsE h.zx d.t.subs ∧ Below W2.heap.size W2 wr) (fun i _ _ => h.t.s.2.1 - (RowKit.intOf i).toNat)
  case atStart => exact ⟨0, rfl, Nat.zero_le _, rfl, HB3.out⟩
  case round =>
  obtain ⟨k, rfl, hk, hS, hb⟩ := hrel
  have HSS := Lib.hid hS; have HBR := Lib.hid hb
  have HBW := Lib.hid (HB2.out.trans (hb.mono HB2.out.size))
  clear hS hb
  have x15 := HD15.out wr HBR.out
  by_cases hlt : k < h.t.s.2.1
  · have hlb := HSB.out
    obtain ⟨b, off, hA, _, hc⟩ := HL.out.2.2 (by omega)
    have hr : wr.rangeAt b (off + k * 16) (encTx L[k]!) := rangeAt_below (fun j u hu => hc k hlt j u hu) HBW.out
    have HST := Lib.hid (subsE_step h.zx d.t.subs k (by rw [HLEN.out]; exact hlt))
    have HOX := Lib.hid (fun W (hW : Below w.heap.size w W) => HS.out W hW k hlt)
    have hln := HLN.out k hlt
    have hlc := HLC.out k hlt
    rw [hlc, hln] at HST
    have z15 : wr.cell? ⟨w.heap.size + 1, 15, none⟩ = some (.slice (some ⟨b, off, none⟩) h.t.s.2.1 h.t.s.2.2) := by rw [x15, ← hA]
    have z2 := HD2.out wr HBR.out
    have zt : wr.cell? ⟨b, off + k * 16, none⟩ = some (.int .i32 L[k]!.n.ty) := by have := hr 0 _ rfl; simpa using this
    have hki : (k : Int) < (h.t.s.2.1 : Int) := by omega
    have hk0 : (0 : Int) ≤ (k : Int) := by omega
    clear hc hA hln hlc x15
    generalize d.t.subs[k]!.v = vj at *
    generalize L[k]! = hj at *
    have HPT := Lib.hid (fun W => refPart13_any hj.n.ty W)
    cases hpt : partB hj.n.ty with
    | false =>
      rw [hpt] at HST HPT
      have HX := Lib.hid (show rightE d = 110 by rw [HV2.out, ← HSS.out, HST.out]; rfl)
      clear hpt HOX
      go_wp2_with fail
      refine (HPT.out _).mono ?_
      rintro e w2 ⟨rfl, rfl⟩
      go_wp2_with fail
      go_ret
      exact RgtP.mk HBW.out HX.out
    | true =>
      rw [hpt] at HST HPT
      clear hpt
      go_wp2_with fail
      refine (HPT.out _).mono ?_
      rintro e wr ⟨rfl, rfl⟩
      go_upto_region 14 with fail
      have HS0 := Lib.hid (fun (V : World) (hV : Below wr.heap.size wr V) => (show V.cell? ⟨w.heap.size + 1, 15, none⟩ = some (.slice (some ⟨b, off, none⟩) h.t.s.2.1 h.t.s.2.2) ∧ V.rangeAt b (off + k * 16) [.int .i32 hj.n.ty, .string hj.n.path, slV hj.d, slV hj.a, .int .i64 hj.n.ow, .int .i32 hj.n.ve, .int .i32 hj.n.cr, .bool hj.n.qh, .int .i64 hj.n.qc, .int .i64 hj.n.qb, .int .i64 hj.n.si, .int .i32 hj.n.st, slV hj.i, slV hj.p, .int .i32 hj.n.co, slV hj.s] ∧ V.cell? ⟨w.heap.size, 2, none⟩ = some (.int .i64 h.zx) from ⟨keep1 z15 hV, rangeAt_below hr hV, keep1 z2 hV⟩))
      refine wp_region_M (S := fun V => V.cell? ⟨w.heap.size + 1, 15, none⟩ = some (.slice (some ⟨b, off, none⟩) h.t.s.2.1 h.t.s.2.2) ∧ V.rangeAt b (off + k * 16) [.int .i32 hj.n.ty, .string hj.n.path, slV hj.d, slV hj.a, .int .i64 hj.n.ow, .int .i32 hj.n.ve, .int .i32 hj.n.cr, .bool hj.n.qh, .int .i64 hj.n.qc, .int .i64 hj.n.qb, .int .i64 hj.n.si, .int .i32 hj.n.st, slV hj.i, slV hj.p, .int .i32 hj.n.co, slV hj.s] ∧ V.cell? ⟨w.heap.size, 2, none⟩ = some (.int .i64 h.zx)) 9 (by kernel_rfl) (HS0.out _ (drew_self wr)) (fun hHeld => ?_)
      have HBR2 := Lib.hid (HBR.out.trans ((drew_self wr).mono HBR.out.size))
      have HBD := Lib.hid (drew_self wr)
      generalize wr.drew = V0 at *
      refine wpAnyM_take (i := 0) (v := .pointer (some ⟨w.heap.size + 1, 15, none⟩)) rfl (by kernel_rfl) (fun _ _ _ h => h) (Or.inl ⟨by rfl, by intro w hSw; clear hSw; go_simp⟩) (by assumption) ?_
      (try simp only [Act.put, List.setIfInBounds_toArray, List.set_cons_zero, List.set_cons_succ])
      refine wpAnyM_take (i := 1) (v := .slice (some ⟨b, off, none⟩) h.t.s.2.1 h.t.s.2.2) rfl (by kernel_rfl) (fun _ _ _ h => h) (Or.inl ⟨by rfl, by intro w hSw; obtain ⟨hSw, -, -⟩ := hSw; go_simp⟩) (by assumption) ?_
      (try simp only [Act.put, List.setIfInBounds_toArray, List.set_cons_zero, List.set_cons_succ])
      refine wpAnyM_take (i := 2) (v := .int .i64 ↑k) rfl (by kernel_rfl) (fun _ _ _ h => h) (Or.inl ⟨by rfl, by intro w hSw; clear hSw; go_simp⟩) (by assumption) ?_
      (try simp only [Act.put, List.setIfInBounds_toArray, List.set_cons_zero, List.set_cons_succ])
      refine wpAnyM_take (i := 3) (v := .pointer (some ⟨b, off + k * 16, none⟩)) rfl (by kernel_rfl) (fun _ _ _ h => h) (Or.inl ⟨by rfl, by intro w hSw; clear hSw; go_simp⟩) (by assumption) ?_
      (try simp only [Act.put, List.setIfInBounds_toArray, List.set_cons_zero, List.set_cons_succ])
      refine wpAnyM_take (i := 4) (v := .agg #[.int .i32 hj.n.ty, .string hj.n.path, slV hj.d, slV hj.a, .int .i64 hj.n.ow, .int .i32 hj.n.ve, .int .i32 hj.n.cr, .bool hj.n.qh, .int .i64 hj.n.qc, .int .i64 hj.n.qb, .int .i64 hj.n.si, .int .i32 hj.n.st, slV hj.i, slV hj.p, .int .i32 hj.n.co, slV hj.s]) rfl (by kernel_rfl) (fun _ _ _ h => h) (yieldsIf_load_mid (by rfl) 33 _ rfl b (off + k * 16) rfl [.int .i32 hj.n.ty, .string hj.n.path, slV hj.d, slV hj.a, .int .i64 hj.n.ow, .int .i32 hj.n.ve, .int .i32 hj.n.cr, .bool hj.n.qh, .int .i64 hj.n.qc, .int .i64 hj.n.qb, .int .i64 hj.n.si, .int .i32 hj.n.st, slV hj.i, slV hj.p, .int .i32 hj.n.co, slV hj.s] _ (fun _ h => h.2.1) undTx rfl infTx) (by assumption) ?_
      (try simp only [Act.put, List.setIfInBounds_toArray, List.set_cons_zero, List.set_cons_succ])
      refine wpAnyM_take (i := 5) (v := .pointer (some ⟨w.heap.size, 2, none⟩)) rfl (by kernel_rfl) (fun _ _ _ h => h) (Or.inl ⟨by rfl, by intro w hSw; clear hSw; go_simp⟩) (by assumption) ?_
      (try simp only [Act.put, List.setIfInBounds_toArray, List.set_cons_zero, List.set_cons_succ])
      refine wpAnyM_take (i := 6) (v := .int .i64 h.zx) rfl (by kernel_rfl) (fun _ _ _ h => h) (Or.inl ⟨by rfl, by intro w hSw; obtain ⟨-, -, hSw⟩ := hSw; go_simp⟩) (by assumption) ?_
      (try simp only [Act.put, List.setIfInBounds_toArray, List.set_cons_zero, List.set_cons_succ])
      refine wpAnyM_one (i := 7) rfl (by kernel_rfl) (fun K hK => ?_)
      go_simp
      refine (HOX.out V0 (HB2.out.trans (HBR2.out.mono HB2.out.size))).mono ?_
      rintro e w5 ⟨rfl, hb5⟩
      dsimp only
      refine hK.out _ _ (HS0.out _ (HBD.out.trans (hb5.mono HBD.out.size))) ?_
      have HB5 := Lib.hid (HBR2.out.trans (hb5.mono HBR2.out.size))
      have hHeld2 := HS0.out _ (HBD.out.trans (hb5.mono HBD.out.size))
      clear hK K hb5 HBR2 HBD hHeld
      (try simp only [Act.put, List.setIfInBounds_toArray, List.set_cons_zero, List.set_cons_succ])
      generalize ownE h.zx vj hj.s.2.1 = x at *
      refine wpAnyM_one (i := 8) rfl (by kernel_rfl) (fun K hK => ?_)
      go_simp
      refine hK.out _ _ hHeld2 ?_
      clear hK K hHeld2 HS0
      (try simp only [Act.put, List.setIfInBounds_toArray, List.set_cons_zero, List.set_cons_succ])
      refine wpAnyM_tail (n := 9) (by kernel_rfl) ?_
      simp only [List.drop_succ_cons, List.drop_zero]
      by_cases ho : x = 0
      · have HX := Lib.hid (show subsE h.zx (d.t.subs.drop (k + 1)) = subsE h.zx d.t.subs by rw [← HSS.out, HST.out, if_neg (by simp), if_neg (by simp [ho])])
        subst ho
        clear HST
        go_wp2_with fail
        go_roundw
        case rel => exact ⟨k + 1, by go_num, by omega, HX.out, HB5.out⟩
        case measure => simp [RowKit.intOf]; omega
      · have HX := Lib.hid (show rightE d = x by rw [HV2.out, ← HSS.out, HST.out, if_neg (by simp), if_pos ho])
        have d2 : (x != 0) = true := bne_iff_ne.2 ho
        clear HST ho
        go_wp2_with fail
        go_ret
        exact RgtP.mk (HB2.out.trans (HB5.out.mono HB2.out.size)) HX.out
  · have hkn : k = h.t.s.2.1 := by omega
    have HX := Lib.hid (show rightE d = 0 by rw [HV2.out, ← HSS.out, hkn, List.drop_of_length_le (by rw [HLEN.out]; exact Nat.le_refl _)]; rfl)
    clear hkn
    go_wp2_with fail
    go_ret
    exact RgtP.mk HBW.out HX.out
end Go.Proofs.YthpjneobmmpbnaaGreatDoor
namespace Go.Proofs.YthpjneobmmpbnaaGreatDoor
open Go.RowKit Go.MapKept Go.Maps
/-! ### plain -/
/-- a step of itself -/
def stepTy (ty : Int) : Bool := ty == 1 || ty == 2 || ty == 5 || ty == 7 || ty == 120 || ty == 121
def isSt (t : TxT) : Bool := stepTy t.v.n.ty
def srcL (t : TxT) : List TxT := if t.v.n.ty = 14 then t.subs else [t]
def fK (l : List TxT) (k : Nat) : List TxT := (l.take k).filter isSt
theorem fK_skip {l : List TxT} {k : Nat} (hk : k < l.length) (h : isSt l[k]! = false) : fK l (k + 1) = fK l k := by
  unfold fK; rw [takeS l hk, List.filter_append, List.filter_cons_of_neg (by rw [h]; simp), List.filter_nil, List.append_nil]
theorem fK_next {l : List TxT} {k : Nat} (hk : k < l.length) (h : isSt l[k]! = true) : fK l (k + 1) = fK l k ++ [l[k]!] := by
  unfold fK; rw [takeS l hk, List.filter_append, List.filter_cons_of_pos h, List.filter_nil]
theorem fK_all (l : List TxT) : fK l l.length = l.filter isSt := by unfold fK; rw [List.take_length]
theorem fK_le (l : List TxT) (k : Nat) : (fK l k).length ≤ k := by
  unfold fK; exact Nat.le_trans (List.length_filter_le _ _) (by rw [List.length_take]; omega)
def refL (t : TxT) : List TxT := (srcL t).filter isSt ++ t.v.paths.map delT
theorem ownE_odd {z : Int} {v : TxF} {k : Nat} (h : ownE z v k = 0) : oddB z v k = false := by
  unfold ownE at h
  split at h
  · cases h
  split at h
  · cases h
  split at h
  · cases h
  · rename_i h2; simpa using h2
theorem spare_no {z : Int} {v : TxF} {k : Nat} (h : ownE z v k = 0) : spareB v k = false := by
  have := ownE_odd h
  unfold oddB at this
  simp only [Bool.or_eq_false_iff] at this
  exact this.1.2
theorem spare_paths {v : TxF} {k : Nat} (h : spareB v k = false) (ht : v.n.ty ≠ -11) : v.paths = [] := by
  unfold spareB at h
  simp only [Bool.or_eq_false_iff, Bool.and_eq_false_iff, Bool.not_eq_false', decide_eq_true_eq, decide_eq_false_iff_not] at h
  have h8 := h.1.1.1.2
  rcases h8 with h8 | h8
  · exact absurd h8 ht
  · exact Classical.not_not.1 h8
theorem subsE_part {z : Int} : ∀ {l : List TxT}, subsE z l = 0 → ∀ t ∈ l, partB t.v.n.ty = true
  | [], _, t, ht => by cases ht
  | x :: l, h, t, ht => by
    unfold subsE at h
    split at h
    · cases h
    rename_i hp
    split at h
    · rename_i h2; exact absurd h h2
    rcases List.mem_cons.1 ht with rfl | ht
    · simpa using hp
    · exact subsE_part h t ht
theorem right_parts {d : DlT} (h : rightE d = 0) : knownB d.t.v.n.ty = true ∧ ownE d.zx d.t.v d.t.subs.length = 0 ∧ ∀ t ∈ d.t.subs, partB t.v.n.ty = true := by
  unfold rightE at h
  split at h
  · cases h
  rename_i h1
  split at h
  · cases h
  split at h
  · rename_i h2; exact absurd h h2
  rename_i h2
  exact ⟨by simpa using h1, by omega, subsE_part h⟩
theorem part_st {ty : Int} (h : partB ty = true) : stepTy ty = (ty != 13) := by
  unfold partB at h
  unfold stepTy
  simp only [decide_eq_true_eq] at h
  rcases h with h | h | h | h | h | h | h <;> subst h <;> rfl
theorem ref_steps {d : DlT} (h : rightE d = 0) : refL d.t = stepsD d := by
  rw [stepsD_ok h]
  obtain ⟨hk, ho, hp⟩ := right_parts h
  have hs := spare_no ho
  unfold refL srcL stepsL
  by_cases h14 : d.t.v.n.ty = 14
  · rw [if_pos h14, if_pos h14, spare_paths hs (by rw [h14]; decide), List.map_nil, List.append_nil]
    exact List.filter_congr fun t ht => part_st (hp t ht)
  rw [if_neg h14, if_neg h14]
  by_cases h11 : d.t.v.n.ty = -11
  · rw [if_pos h11, List.filter_cons_of_neg (by unfold isSt; rw [h11]; decide), List.filter_nil, List.nil_append]
    refine (List.filter_eq_self.2 fun t ht => ?_).symm
    obtain ⟨p, _, rfl⟩ := List.mem_map.1 ht
    rfl
  rw [if_neg h11, spare_paths hs h11, List.map_nil, List.append_nil]
  by_cases h1 : d.t.v.n.ty = -1 ∨ d.t.v.n.ty = -10
  · rw [if_pos h1, List.filter_cons_of_neg (by unfold isSt; rcases h1 with h1 | h1 <;> rw [h1] <;> decide), List.filter_nil]; rfl
  rw [if_neg h1]
  refine List.filter_congr fun t ht => ?_
  obtain rfl := List.mem_singleton.1 ht
  refine part_st ?_
  unfold knownB at hk
  rw [Bool.or_eq_true] at hk
  rcases hk with h | h
  · exact h
  · have := of_decide_eq_true h; omega
theorem stepsD_le {d : DlT} (h1 : d.t.subs.length ≤ 1048576) (h2 : d.t.v.paths.length ≤ 1048576) : (stepsD d).length ≤ 1048576 := by
  unfold stepsD
  split
  · exact Nat.zero_le _
  refine Nat.le_trans (List.length_filter_le _ _) ?_
  unfold stepsL
  split
  · exact h1
  split
  · rw [List.length_map]; exact h2
  split
  · exact Nat.zero_le _
  · exact (by decide : 1 ≤ 1048576)
/-- a loop's state: the list so far is xs -/
structure StX (RR : World → Nat → Nat → Prop) (W : World) (xs : List TxT) (v : Value) (wr : World) : Prop where
  b : Below W.heap.size W wr
  r : ∃ A c, v = .slice A xs.length c ∧ LsR RR W.heap.size xs A c wr
theorem stepTy_cases {ty : Int} (h : stepTy ty = true) : ty = 1 ∨ ty = 2 ∨ ty = 5 ∨ ty = 7 ∨ ty = 120 ∨ ty = 121 := by
  unfold stepTy at h
  simp only [Bool.or_eq_true, beq_iff_eq] at h
  omega
theorem stepTy_no {ty : Int} (h : stepTy ty = false) : (ty == 1) = false ∧ (ty == 2) = false ∧ (ty == 5) = false ∧ (ty == 7) = false ∧ (ty == 120) = false ∧ (ty == 121) = false := by
  unfold stepTy at h
  simp only [Bool.or_eq_false_iff] at h
  obtain ⟨⟨⟨⟨⟨h1, h2⟩, h3⟩, h4⟩, h5⟩, h6⟩ := h
  exact ⟨h1, h2, h3, h4, h5, h6⟩
set_option linter.unusedSimpArgs false in
set_option maxRecDepth 100000 in
set_option maxHeartbeats 20000000 in
theorem refSteps_any (h : DlH) (d : DlT) (w : World) (R : Nat → Prop) (hd : DlAt w R h d) (hsm : DlSm 1048576 d) : Calls Tryz.prog 24 #[dlV h] w (StepsP NfR (stepsD d) w) := by
  have hl := hd.2.loc
  obtain ⟨L, hL, hsub⟩ := hd.2.subs_at
  have hn := hl.1
  have hlen := hd.2.len
  have htop := hsm.2.top
  have HRI := Lib.hid (fun (V : World) (hV : Below w.heap.size w V) => refRight_any h d V (fun _ => True) ⟨hd.1, TxAt.tru hd.2 hV⟩ hsm)
  have HTY := Lib.hid (show d.t.v.n.ty = h.t.n.ty by rw [hn])
  have HSUBS := Lib.hid (fun (V : World) (hV : Below w.heap.size w V) => (show SrR d.t.subs h.t.s.1 h.t.s.2.1 h.t.s.2.2 V from ⟨⟨L, SlR.tru (enc := encTx) (k := 16) hL hV (fun _ => by simp [encTx]), fun j hj => TxAt.tru (hsub j hj) hV, hlen, by have := htop.2.2.2.2.2.2.1; rw [hlen] at this; exact this, fun j hj => hsm.2.subAt (j := j) (by rw [hlen]; exact hj)⟩⟩))
  have HONE := Lib.hid (fun (V : World) (hV : Below w.heap.size w V) => (show TxAt V (fun _ => True) h.t d.t from TxAt.tru hd.2 hV))
  have HPS := Lib.hid hl.2.2.2.2
  have HPN := Lib.hid (show h.t.p.2.1 ≤ 1048576 by have h1 := htop.2.2.2.2.2.1; rw [hl.2.2.2.2.len] at h1; exact h1)
  have HPL := Lib.hid hl.2.2.2.2.len
  have HSL := Lib.hid (stepsD_le htop.2.2.2.2.2.2.1 htop.2.2.2.2.2.1)
  have HOK := Lib.hid hsm.2
  clear hl hL hsub hn hlen htop hd hsm
  have hb0 : Below w.heap.size w (w.alloc (.cells #[.int .i64 h.se, .int .i32 h.xi, .int .i64 h.zx, .int .i64 h.ti, .int .i32 h.t.n.ty, .string h.t.n.path, slV h.t.d, slV h.t.a, .int .i64 h.t.n.ow, .int .i32 h.t.n.ve, .int .i32 h.t.n.cr, .bool h.t.n.qh, .int .i64 h.t.n.qc, .int .i64 h.t.n.qb, .int .i64 h.t.n.si, .int .i32 h.t.n.st, slV h.t.i, slV h.t.p, .int .i32 h.t.n.co, slV h.t.s] 35)) := (Below.refl _ w).alloc (Nat.le_refl _) _
  have HG0 := Lib.hid (heap_s0 w (.cells #[.int .i64 h.se, .int .i32 h.xi, .int .i64 h.zx, .int .i64 h.ti, .int .i32 h.t.n.ty, .string h.t.n.path, slV h.t.d, slV h.t.a, .int .i64 h.t.n.ow, .int .i32 h.t.n.ve, .int .i32 h.t.n.cr, .bool h.t.n.qh, .int .i64 h.t.n.qc, .int .i64 h.t.n.qb, .int .i64 h.t.n.si, .int .i32 h.t.n.st, slV h.t.i, slV h.t.p, .int .i32 h.t.n.co, slV h.t.s] 35))
  have HZ0 := Lib.hid (sz1 w (.cells #[.int .i64 h.se, .int .i32 h.xi, .int .i64 h.zx, .int .i64 h.ti, .int .i32 h.t.n.ty, .string h.t.n.path, slV h.t.d, slV h.t.a, .int .i64 h.t.n.ow, .int .i32 h.t.n.ve, .int .i32 h.t.n.cr, .bool h.t.n.qh, .int .i64 h.t.n.qc, .int .i64 h.t.n.qb, .int .i64 h.t.n.si, .int .i32 h.t.n.st, slV h.t.i, slV h.t.p, .int .i32 h.t.n.co, slV h.t.s] 35))
  have HB := Lib.hid hb0
  clear hb0
  go_enter Tryz.func24, Tryz.ntmps24
  go_upto_region 1 with fail
  generalize w.alloc (.cells #[.int .i64 h.se, .int .i32 h.xi, .int .i64 h.zx, .int .i64 h.ti, .int .i32 h.t.n.ty, .string h.t.n.path, slV h.t.d, slV h.t.a, .int .i64 h.t.n.ow, .int .i32 h.t.n.ve, .int .i32 h.t.n.cr, .bool h.t.n.qh, .int .i64 h.t.n.qc, .int .i64 h.t.n.qb, .int .i64 h.t.n.si, .int .i32 h.t.n.st, slV h.t.i, slV h.t.p, .int .i32 h.t.n.co, slV h.t.s] 35) = W at *
  have g0 := HG0.out
  have HX4 := Lib.hid (fun (V : World) (hV : Below W.heap.size W V) => (show V.rangeAt w.heap.size 4 (encTx h.t) from rangeAt_heapC (pre := [.int .i64 h.se, .int .i32 h.xi, .int .i64 h.zx, .int .i64 h.ti]) (mid := encTx h.t) (post := []) ((hV.block _ (by have := HZ0.out; omega)).trans HG0.out) rfl rfl))
  have HD4 := Lib.hid (fun (V : World) (hV : Below W.heap.size W V) => (show V.cell? ⟨w.heap.size, 4, none⟩ = some (.int .i32 h.t.n.ty) by rw [cellH ((hV.block _ (by have := HZ0.out; omega)).trans HG0.out)]; rfl))
  have HD17 := Lib.hid (fun (V : World) (hV : Below W.heap.size W V) => (show V.cell? ⟨w.heap.size, 17, none⟩ = some (slV h.t.p) by rw [cellH ((hV.block _ (by have := HZ0.out; omega)).trans HG0.out)]; rfl))
  have HD19 := Lib.hid (fun (V : World) (hV : Below W.heap.size W V) => (show V.cell? ⟨w.heap.size, 19, none⟩ = some (slV h.t.s) by rw [cellH ((hV.block _ (by have := HZ0.out; omega)).trans HG0.out)]; rfl))
  have hri := (HRI.out W HB.out)
  go_wp2_with (first
    | (apply wpList_loadRow 35 35; exact rfl; exact rfl; exact rfl; (first | assumption | (refine heap_under ?_; assumption) | (exact heap_s0 _ _) | (exact heap_s1 _ _ _) | (exact heap_under (heap_s0 _ _))); exact undDl; exact rfl; exact infDl)
    | fail)
  refine hri.mono ?_
  rintro e w1 ⟨rfl, hb1⟩
  have HB1 := Lib.hid hb1
  clear hri hb1 g0 HRI
  by_cases hr0 : rightE d = 0
  case neg =>
    have HV := Lib.hid (stepsD_no hr0)
    generalize rightE d = x at *
    have d1 : (x != 0) = true := bne_iff_ne.2 hr0
    clear hr0
    go_wp2_with fail
    go_ret
    exact ⟨⟨none, 0, by rw [HV.out]; rfl, by rw [HV.out]; exact LsR.nil⟩, HB.out.trans (HB1.out.mono HB.out.size)⟩
  rw [hr0]
  have HV := Lib.hid (ref_steps hr0)
  clear hr0
  have y1 := HX4.out w1 HB1.out
  have HG3 := Lib.hid (heap_s0 w1 (.cells #[.int .i32 h.t.n.ty, .string h.t.n.path, slV h.t.d, slV h.t.a, .int .i64 h.t.n.ow, .int .i32 h.t.n.ve, .int .i32 h.t.n.cr, .bool h.t.n.qh, .int .i64 h.t.n.qc, .int .i64 h.t.n.qb, .int .i64 h.t.n.si, .int .i32 h.t.n.st, slV h.t.i, slV h.t.p, .int .i32 h.t.n.co, slV h.t.s] 33))
  have hb3 : Below w1.heap.size w1 (w1.alloc (.cells #[.int .i32 h.t.n.ty, .string h.t.n.path, slV h.t.d, slV h.t.a, .int .i64 h.t.n.ow, .int .i32 h.t.n.ve, .int .i32 h.t.n.cr, .bool h.t.n.qh, .int .i64 h.t.n.qc, .int .i64 h.t.n.qb, .int .i64 h.t.n.si, .int .i32 h.t.n.st, slV h.t.i, slV h.t.p, .int .i32 h.t.n.co, slV h.t.s] 33)) := (Below.refl _ w1).alloc (Nat.le_refl _) _
  have HB2 := Lib.hid (HB1.out.trans (hb3.mono HB1.out.size))
  clear hb3
  go_upto_region 5 with (first
    | (apply wpList_loadMid 33; exact rfl; exact rfl; exact rfl; exact (by assumption); exact undTx; exact rfl; exact infTx)
    | fail)
  generalize w1.alloc (.cells #[.int .i32 h.t.n.ty, .string h.t.n.path, slV h.t.d, slV h.t.a, .int .i64 h.t.n.ow, .int .i32 h.t.n.ve, .int .i32 h.t.n.cr, .bool h.t.n.qh, .int .i64 h.t.n.qc, .int .i64 h.t.n.qb, .int .i64 h.t.n.si, .int .i32 h.t.n.st, slV h.t.i, slV h.t.p, .int .i32 h.t.n.co, slV h.t.s] 33) = W2 at *
  clear y1
  have HB3 := Lib.hid (HB.out.trans (HB2.out.mono HB.out.size))
  have HO1 := Lib.hid (show SrR [d.t] (some ⟨w1.heap.size, 0, none⟩) 1 1 W2 from by
    refine ⟨⟨[h.t], ⟨rfl, ⟨fun e => (by cases e), Nat.le_refl _⟩, fun _ => ⟨w1.heap.size, 0, rfl, trivial, fun j hj i u hu => ?_⟩⟩, fun j hj => ?_, rfl, by decide, fun j hj => ?_⟩⟩
    · obtain rfl : j = 0 := by simp at hj; omega
      exact rangeAt_heapC (pre := []) (mid := encTx h.t) (post := []) HG3.out rfl rfl i u hu
    · obtain rfl : j = 0 := by omega
      exact HONE.out W2 HB3.out
    · obtain rfl : j = 0 := by omega
      exact HOK.out)
  have y4 := HD4.out W2 HB2.out
  have y19 := HD19.out W2 HB2.out
  go_upto_if 16 with fail
  go_cut [4] from 17 to 19 (fun v wx => wx = W2 ∧ ∃ A n c, v = .slice A n c ∧ SrR (srcL d.t) A n c W2)
  case first =>
    by_cases h14 : h.t.n.ty = 14
    · have HX := Lib.hid (show srcL d.t = d.t.subs by unfold srcL; rw [HTY.out, if_pos h14])
      generalize h.t.n.ty = ty at *
      have b1 : (ty == 14) = true := by rw [h14]; rfl
      clear h14
      go_wp2_with fail
      go_meet
      exact ⟨rfl, _, _, _, rfl, by rw [HX.out]; exact HSUBS.out W2 HB3.out⟩
    have HX := Lib.hid (show srcL d.t = [d.t] by unfold srcL; rw [HTY.out, if_neg h14])
    generalize h.t.n.ty = ty at *
    have b1 : (ty == 14) = false := beq_eq_false_iff_ne.2 h14
    clear h14
    go_wp2_with fail
    go_meet
    exact ⟨rfl, _, _, _, rfl, by rw [HX.out]; exact HO1.out⟩
  case rest =>
  obtain ⟨hwc, A0, n, c0, rfl, hsr⟩ := hcut
  subst hwc
  obtain ⟨Ls, hLs⟩ := hsr.r
  have HLS := Lib.hid hLs
  have HNM := Lib.hid hLs.2.2.2.1
  have HLL := Lib.hid hLs.2.2.1
  clear hsr hLs HSUBS HONE HOK HX4 HD4 HD19 HO1 HG3
  have hnm := HNM.out
  go_wp2_with fail
  go_loopw [3, 5] (fun v i wr => ∃ k : Nat, i = .int .i64 ↑k ∧ k ≤ n ∧ StX NfR wc (fK (srcL d.t) k) v wr) (fun _ i _ => n - (RowKit.intOf i).toNat)
  case atStart => exact ⟨0, rfl, Nat.zero_le _, ⟨Below.refl _ _, none, 0, rfl, LsR.nil⟩⟩
  case round =>
  obtain ⟨k, rfl, hk, hR⟩ := hrel
  obtain ⟨hbR, A, c, rfl, hls⟩ := hR
  have HBR := Lib.hid hbR; have HLR := Lib.hid hls
  clear hbR hls
  by_cases hlt : k < n
  · obtain ⟨b, off, ea, _, hca⟩ := HLS.out.1.2.2 (Nat.lt_of_le_of_lt (Nat.zero_le _) hlt)
    have ea : A0 = some ⟨b, off, none⟩ := ea
    subst ea
    have hy6 : wr.rangeAt b (off + k * 16) (encTx Ls[k]!) := fun i u hu => keep1 (hca k hlt i u hu) HBR.out
    have HKL := Lib.hid (show k < (srcL d.t).length by rw [HLL.out]; exact hlt)
    have HCK := Lib.hid (fun (V : World) (hV : Below wc.heap.size wc V) => refCloneTx_any (srcL d.t)[k]! Ls[k]! V _ (TxAt.tru (HLS.out.2.1 k hlt) hV) (HLS.out.2.2.2.2 k hlt))
    have HNK := Lib.hid (show isSt (srcL d.t)[k]! = stepTy Ls[k]!.n.ty by unfold isSt; rw [(HLS.out.2.1 k hlt).loc.1])
    have HMM := Lib.hid (show (fK (srcL d.t) k).length ≤ 1048576 by have h1 := fK_le (srcL d.t) k; have h2 := HNM.out; omega)
    have hki : (k : Int) < (n : Int) := by omega
    have hk0 : (0 : Int) ≤ (k : Int) := by omega
    clear hca
    generalize Ls[k]! = hj at *
    have y7 : wr.cell? ⟨b, off + k * 16, none⟩ = some (.int .i32 hj.n.ty) := hy6 0 _ rfl
    have HY6 := Lib.hid hy6
    clear hy6
    cases h13 : stepTy hj.n.ty with
    | false =>
      have HRN := Lib.hid (show StX NfR wc (fK (srcL d.t) (k + 1)) (.slice A (fK (srcL d.t) k).length c) wr from ⟨HBR.out, A, c, by rw [fK_skip HKL.out (by rw [HNK.out, h13])], by rw [fK_skip HKL.out (by rw [HNK.out, h13])]; exact HLR.out⟩)
      obtain ⟨t1, t2, t3, t4, t5, t6⟩ := stepTy_no h13
      clear HNK h13
      generalize hj.n.ty = tj at y7 t1 t2 t3 t4 t5 t6 ⊢
      go_wp2_with fail
      go_roundw
      case rel => exact ⟨k + 1, by go_num, by omega, HRN.out⟩
      case measure => simp [RowKit.intOf]; omega
    | true =>
      have HNX := Lib.hid (show fK (srcL d.t) (k + 1) = fK (srcL d.t) k ++ [(srcL d.t)[k]!] from fK_next HKL.out (by rw [HNK.out, h13]))
      have HC6 := Lib.hid (stepTy_cases h13)
      obtain ⟨Hs, hrow, hHl, hHt⟩ := HLR.out.r
      have HRW := Lib.hid hrow; have HHL := Lib.hid hHl; have HHT := Lib.hid hHt
      clear hrow hHl hHt HNK h13
      go_upto_region 11 with fail
      clear y7
      go_upto_if 31 with fail
      go_cut [30, 31, 32] from 33 to 37 (fun _ v _ wx => v = .bool true ∧ wr = wx)
      case first =>
        have hc6 := HC6.out
        generalize hj.n.ty = tj at hc6 ⊢
        rcases hc6 with rfl | rfl | rfl | rfl | rfl | rfl
        all_goals (go_wp2_with fail; go_meet; exact ⟨rfl, rfl⟩)
      case rest =>
      obtain ⟨rfl, hwr⟩ := hcut
      subst hwr
      have y6 := HY6.out
      have HB5 := Lib.hid (Below.refl wr.heap.size wr)
      go_wp2_with (first
        | (apply wpList_loadMid 33; exact rfl; exact rfl; exact rfl; exact (by assumption); exact undTx; exact rfl; exact infTx)
        | fail)
      refine (HCK.out wr HBR.out).mono ?_
      rintro e w6 ⟨⟨h6, rfl, ht6⟩, hb6⟩
      have HB6 := Lib.hid hb6
      have HT6 := Lib.hid (TrAt.fr kTxOk (R' := fun b => wr.heap.size ≤ b ∧ NfR w6 wc.heap.size b) ht6 (Fr.refl [] w6) (fun b hlt h => ⟨by simp, h.1, kNf.fr hlt h (Fr.refl [] w6) (by simp) HBR.out.size⟩))
      clear ht6 hb6 y6 HY6
      have hb7 : Below w6.heap.size w6 (w6.alloc (.cells (encTx h6).toArray 33)) := (Below.refl _ w6).alloc (Nat.le_refl _) _
      have HB7 := Lib.hid hb7
      have HX7 := Lib.hid (show (w6.alloc (.cells (encTx h6).toArray 33)).rangeAt w6.heap.size 0 (encTx h6) from rangeAt_heapC (pre := []) (mid := encTx h6) (post := []) (heap_s0 w6 _) (by simp) rfl)
      have HOW := Lib.hid (own_later HRW.out (HB6.out.trans (hb7.mono HB6.out.size)))
      have HSZ := Lib.hid (show wc.heap.size ≤ (w6.alloc (.cells (encTx h6).toArray 33)).heap.size from Nat.le_trans HBR.out.size (Nat.le_trans HB6.out.size hb7.size))
      clear hb7
      go_wp2_with (first
        | (at_builtin; refine wpList_appT elemBTx HOW.out HHL.out h6 w6.heap.size rfl _ _ rfl ?hx9 ?hy9 HX7.out HMM.out HSZ.out ?hk9)
        | fail)
      (try case hx9 => rfl)
      (try case hy9 => rfl)
      case hk9 =>
      intro A9 c9 w9 hv9 hon9
      have HRN := Lib.hid (LsR.step kNf HB6.out HT6.out HB7.out HRW.out HHL.out HHT.out (by rw [List.flatMap_append, List.flatMap_singleton]; exact hv9) hon9)
      have HBN := Lib.hid (HBR.out.trans (((HB6.out.trans (HB7.out.mono HB6.out.size)).mono HBR.out.size).trans (OnT.bel hon9 HOW.out HSZ.out)))
      clear hv9 hon9
      go_wp2_with fail
      go_roundw
      case rel =>
        refine ⟨k + 1, by go_num, by omega, ⟨HBN.out, A9, c9, ?_, ?_⟩⟩
        · rw [HNX.out, List.length_append]; rfl
        · rw [HNX.out]; exact HRN.out
      case measure => simp [RowKit.intOf]; omega
  obtain rfl : k = n := by omega
  have hki : ¬ ((k : Int) < (k : Int)) := by omega
  have HPL2 := Lib.hid (show d.t.v.paths.length = h.t.p.2.1 from HPL.out)
  have HFK := Lib.hid (show fK (srcL d.t) k ++ (d.t.v.paths.take 0).map delT = fK (srcL d.t) k by simp)
  have HSTART := Lib.hid (show StX NfR wc (fK (srcL d.t) k ++ (d.t.v.paths.take 0).map delT) (.slice A (fK (srcL d.t) k).length c) wr from ⟨HBR.out, A, c, by rw [HFK.out], by rw [HFK.out]; exact HLR.out⟩)
  have HXL := Lib.hid (show (fK (srcL d.t) k).length ≤ 1048576 by have h1 := fK_le (srcL d.t) k; omega)
  have HFIN := Lib.hid (show fK (srcL d.t) k ++ (d.t.v.paths.take h.t.p.2.1).map delT = stepsD d by rw [← HV.out, ← HPL2.out, List.take_length]; unfold refL; rw [← fK_all, HLL.out])
  clear HLR HFK HBR
  generalize fK (srcL d.t) k = X1 at *
  have HG17 := Lib.hid (fun (V : World) (hV : Below wc.heap.size wc V) => HD17.out V (HB2.out.trans (hV.mono HB2.out.size)))
  go_wp2_with fail
  go_loopw [3, 6] (fun v i wr => ∃ k : Nat, i = .int .i64 ↑k ∧ k ≤ h.t.p.2.1 ∧ StX NfR wc (X1 ++ (d.t.v.paths.take k).map delT) v wr) (fun _ i _ => h.t.p.2.1 - (RowKit.intOf i).toNat)
  case atStart => exact ⟨0, rfl, Nat.zero_le _, HSTART.out⟩
  case round =>
  obtain ⟨k2, rfl, hk, hR⟩ := hrel
  obtain ⟨hbR, A2, c2, rfl, hls⟩ := hR
  have HBR := Lib.hid hbR; have HLR := Lib.hid hls
  have y17 := HG17.out _ hbR
  clear hbR hls
  have hpn := HPN.out
  by_cases hlt : k2 < h.t.p.2.1
  · obtain ⟨b, off, ea, _, hca⟩ := HPS.out.2.2 (Nat.lt_of_le_of_lt (Nat.zero_le _) hlt)
    have y5 : wr.cell? ⟨b, off + k2, none⟩ = some (.string d.t.v.paths[k2]!) := by
      have := keep1 (hca k2 hlt 0 (.string d.t.v.paths[k2]!) (by simp [encStr])) (HB3.out.trans (HBR.out.mono HB3.out.size))
      rwa [show off + k2 * 1 + 0 = off + k2 by omega] at this
    have hki2 : (k2 : Int) < (h.t.p.2.1 : Int) := by omega
    have hk0 : (0 : Int) ≤ (k2 : Int) := by omega
    rw [show slV h.t.p = .slice (some ⟨b, off, none⟩) h.t.p.2.1 h.t.p.2.2 by rw [← ea]] at y17
    have HNX := Lib.hid (show X1 ++ (d.t.v.paths.take (k2 + 1)).map delT = (X1 ++ (d.t.v.paths.take k2).map delT) ++ [delT d.t.v.paths[k2]!] by rw [takeS _ (by rw [HPL2.out]; exact hlt), List.map_append, List.append_assoc]; rfl)
    have HMM := Lib.hid (show (X1 ++ (d.t.v.paths.take k2).map delT).length ≤ 1048576 by have h1 := congrArg List.length HFIN.out; rw [List.length_append, List.length_map, List.length_take] at h1 ⊢; have h2 := HSL.out; have h3 := HPL2.out; omega)
    generalize X1 ++ (d.t.v.paths.take k2).map delT = X2 at *
    obtain ⟨Hs, hrow, hHl, hHt⟩ := HLR.out.r
    have HRW := Lib.hid hrow; have HHL := Lib.hid hHl; have HHT := Lib.hid hHt
    clear hrow hHl hHt hca ea
    generalize d.t.v.paths[k2]! = pk at *
    have hb7 : Below wr.heap.size wr (wr.alloc (.cells (encTx (delH pk)).toArray 33)) := (Below.refl _ wr).alloc (Nat.le_refl _) _
    have HB7 := Lib.hid hb7
    have HX7 := Lib.hid (show (wr.alloc (.cells (encTx (delH pk)).toArray 33)).rangeAt wr.heap.size 0 (encTx (delH pk)) from rangeAt_heapC (pre := []) (mid := encTx (delH pk)) (post := []) (heap_s0 wr _) (by simp) rfl)
    have HOW := Lib.hid (own_later HRW.out hb7)
    have HSZ := Lib.hid (show wc.heap.size ≤ (wr.alloc (.cells (encTx (delH pk)).toArray 33)).heap.size from Nat.le_trans HBR.out.size hb7.size)
    clear hb7
    go_wp2_with (first
      | (at_builtin; refine wpList_appT elemBTx HOW.out HHL.out (delH pk) wr.heap.size rfl _ _ rfl ?hx9 ?hy9 HX7.out HMM.out HSZ.out ?hk9)
      | fail)
    (try case hx9 => rfl)
    (try case hy9 => rfl)
    case hk9 =>
    intro A9 c9 w9 hv9 hon9
    have HRN := Lib.hid (LsR.step kNf (x := delT pk) (Below.refl _ wr) (del_at _ _ _) HB7.out HRW.out HHL.out HHT.out (by rw [List.flatMap_append, List.flatMap_singleton]; simpa using hv9) hon9)
    have HBN := Lib.hid (HBR.out.trans ((HB7.out.mono HBR.out.size).trans (OnT.bel hon9 HOW.out HSZ.out)))
    clear hv9 hon9
    go_wp2_with fail
    go_roundw
    case rel =>
      refine ⟨k2 + 1, by go_num, by omega, ⟨HBN.out, A9, c9, ?_, ?_⟩⟩
      · rw [HNX.out, List.length_append]; rfl
      · rw [HNX.out]; exact HRN.out
    case measure => simp [RowKit.intOf]; omega
  obtain rfl : k2 = h.t.p.2.1 := by omega
  have hki2 : ¬ ((h.t.p.2.1 : Int) < (h.t.p.2.1 : Int)) := by omega
  rw [HFIN.out] at HLR ⊢
  have HF2 := Lib.hid (HLR.out.mono kNf HB3.out.size)
  have HF3 := Lib.hid (HB3.out.trans (HBR.out.mono HB3.out.size))
  clear HLR
  go_wp2_with fail
  go_ret
  exact ⟨⟨A2, c2, rfl, HF2.out⟩, HF3.out⟩
end Go.Proofs.YthpjneobmmpbnaaGreatDoor
namespace Go.Proofs.YthpjneobmmpbnaaGreatDoor
open Go.RowKit Go.MapKept Go.Maps
/-- the parent of a path; nothing of what is none -/
def parE (s : ByteArray) : ByteArray := if validP s && !decide (s = sSlash) then parP s else ⟨#[]⟩
/-- the paths that a step touches -/
def tKey (t : TxT) : List ByteArray := if t.v.n.ty = 1 ∨ t.v.n.ty = 2 then [t.v.n.path, parE t.v.n.path] else [t.v.n.path]
def tKeys (l : List TxT) : List ByteArray := l.flatMap tKey
def addK (acc : List ByteArray) (p : ByteArray) : List ByteArray := if acc.any (fun x => decide (x = p)) then acc else acc ++ [p]
theorem any_mem (l : List ByteArray) (p : ByteArray) : l.any (fun x => decide (x = p)) = true ↔ p ∈ l := by
  rw [List.any_eq_true]
  exact ⟨fun ⟨x, hx, e⟩ => of_decide_eq_true e ▸ hx, fun h => ⟨p, h, by simp⟩⟩
def keysOf (l : List ByteArray) : List ByteArray := l.foldl addK []
noncomputable def touchD (d : DlT) : List ByteArray := sortS (keysOf (tKeys (stepsD d)))
theorem tKeys_snoc {l : List TxT} {k : Nat} (hk : k < l.length) : tKeys (l.take (k + 1)) = tKeys (l.take k) ++ tKey l[k]! := by
  unfold tKeys; rw [takeS l hk, List.flatMap_append, List.flatMap_singleton]
theorem keysOf_snoc (l : List ByteArray) (p : ByteArray) : keysOf (l ++ [p]) = addK (keysOf l) p := by unfold keysOf; rw [List.foldl_append]; rfl
theorem addK_le (l : List ByteArray) (p : ByteArray) : (addK l p).length ≤ l.length + 1 := by
  unfold addK; split
  · omega
  · rw [List.length_append]; exact Nat.le_refl _
theorem keysOf_le : ∀ l : List ByteArray, (keysOf l).length ≤ l.length := by
  intro l
  suffices h : ∀ (l acc : List ByteArray), (l.foldl addK acc).length ≤ acc.length + l.length by
    have := h l []; simpa [keysOf] using this
  intro l
  induction l with
  | nil => intro acc; exact Nat.le_refl _
  | cons p l ih =>
    intro acc
    have h1 := ih (addK acc p); have h2 := addK_le acc p
    simp only [List.foldl_cons, List.length_cons]; omega
theorem tKeys_le (l : List TxT) : (tKeys l).length ≤ 2 * l.length := by
  unfold tKeys
  induction l with
  | nil => exact Nat.le_refl _
  | cons t l ih =>
    have : (tKey t).length ≤ 2 := by unfold tKey; split <;> simp
    simp only [List.flatMap_cons, List.length_append, List.length_cons]; omega
theorem parE_size (s : ByteArray) : (parE s).size ≤ s.size := by
  unfold parE; split
  · unfold parP; simp [ByteArray.size_extract]; omega
  · exact Nat.zero_le _
theorem path_steps {d : DlT} (h : DlSm 1048576 d) : ∀ t ∈ stepsD d, t.v.n.path.size ≤ 1048576 := by
  intro t ht
  unfold stepsD at ht
  split at ht
  · cases ht
  have ht := (List.mem_filter.1 ht).1
  have htop := h.2.top
  unfold stepsL at ht
  split at ht
  · obtain ⟨j, hj, rfl⟩ := List.getElem_of_mem ht
    have := (h.2.subAt (j := j) hj).top.2.1
    rwa [getElem!_pos d.t.subs j hj] at this
  split at ht
  · obtain ⟨p, hp, rfl⟩ := List.mem_map.1 ht
    obtain ⟨j, hj, rfl⟩ := List.getElem_of_mem hp
    have := htop.2.2.2.2.2.2.2.2.2 j hj
    rwa [getElem!_pos d.t.v.paths j hj] at this
  split at ht
  · cases ht
  · obtain rfl := List.mem_singleton.1 ht
    exact htop.2.1
/-- a map of these keys, of no values -/
def KeyM (w : World) (b : Nat) (K : List ByteArray) : Prop := ∃ l : List (ByteArray × Value), MapS w b l ∧ l.map (·.1) = K
theorem KeyM.add {w : World} {b : Nat} {K : List ByteArray} (h : KeyM w b K) {p : ByteArray} (hp : p.size ≤ 1048576) (v : Value) : ∃ w', (Instr.mapUpdate 85 (.map (some b)) (.string p) v).run Tryz.prog w = .ok () w' ∧ KeyM w' b (addK K p) ∧ w.grownBy w' (some b) ∧ w'.heap.size = w.heap.size := by
  obtain ⟨l, hm, rfl⟩ := h
  obtain ⟨w', l', h1, h2, h3, h4, h5⟩ := MapK.update hm Tryz.underlying85 (i := p) (Nat.le_trans hp (by decide)) v
  refine ⟨w', h1, ⟨l', h2, ?_⟩, h3, h4⟩
  rcases h5 with ⟨hn, rfl⟩ | ⟨j, old, hj, rfl⟩
  · have : p ∉ l.map (·.1) := fun hx => by obtain ⟨x, hx, e⟩ := List.mem_map.1 hx; exact hn x hx e
    unfold addK
    rw [if_neg (fun h => this ((any_mem _ _).1 h)), List.map_append]; rfl
  · have : p ∈ l.map (·.1) := List.mem_map.2 ⟨_, List.mem_of_getElem? hj, rfl⟩
    unfold addK
    rw [if_pos ((any_mem _ _).2 this), List.map_set]
    refine List.ext_getElem? fun i => ?_
    rw [List.getElem?_set]
    split
    · rename_i hij
      subst hij
      rw [List.getElem?_map, hj]
      have := (List.getElem?_eq_some_iff.1 hj).1
      simp [this]
    · rfl
theorem KeyM.of_heap {w w' : World} {b : Nat} {K : List ByteArray} (h : KeyM w b K) (hh : w'.heap[b]? = w.heap[b]?) : KeyM w' b K := by
  obtain ⟨l, hm, e⟩ := h
  exact ⟨l, MapK.of_heap hm hh, e⟩
theorem KeyM.lt {w : World} {b : Nat} {K : List ByteArray} (h : KeyM w b K) : b < w.heap.size := by
  obtain ⟨l, hm, e⟩ := h
  exact MapK.lt hm
/-- the loop's state -/
structure TcR (b : Nat) (W : World) (xs : List TxT) (k : Nat) (wr : World) : Prop where
  f : Fr [b] W wr
  m : KeyM wr b (keysOf (tKeys (xs.take k)))
set_option linter.unusedSimpArgs false in
set_option maxRecDepth 100000 in
set_option maxHeartbeats 20000000 in
theorem touched_any (h : DlH) (d : DlT) (w : World) (R : Nat → Prop) (hd : DlAt w R h d) (hE : Env w) (hsm : DlSm 1048576 d) : Calls Tryz.prog 26 #[dlV h] w (SortSP w (touchD d)) := by
  have htop := hsm.2.top
  have HSI := Lib.hid (fun (V : World) (hV : Below w.heap.size w V) => steps_any h d V (fun _ => True) ⟨hd.1, TxAt.tru hd.2 hV⟩ (hE.below (Nat.le_refl _) hV) hsm)
  have HNM := Lib.hid (stepsD_le htop.2.2.2.2.2.2.1 htop.2.2.2.2.2.1)
  have HPZ := Lib.hid (path_steps hsm)
  have HE := Lib.hid hE
  clear htop hd hE hsm
  have hb0 : Below w.heap.size w (w.alloc (.cells #[.int .i64 h.se, .int .i32 h.xi, .int .i64 h.zx, .int .i64 h.ti, .int .i32 h.t.n.ty, .string h.t.n.path, slV h.t.d, slV h.t.a, .int .i64 h.t.n.ow, .int .i32 h.t.n.ve, .int .i32 h.t.n.cr, .bool h.t.n.qh, .int .i64 h.t.n.qc, .int .i64 h.t.n.qb, .int .i64 h.t.n.si, .int .i32 h.t.n.st, slV h.t.i, slV h.t.p, .int .i32 h.t.n.co, slV h.t.s] 35)) := (Below.refl _ w).alloc (Nat.le_refl _) _
  have HG0 := Lib.hid (heap_s0 w (.cells #[.int .i64 h.se, .int .i32 h.xi, .int .i64 h.zx, .int .i64 h.ti, .int .i32 h.t.n.ty, .string h.t.n.path, slV h.t.d, slV h.t.a, .int .i64 h.t.n.ow, .int .i32 h.t.n.ve, .int .i32 h.t.n.cr, .bool h.t.n.qh, .int .i64 h.t.n.qc, .int .i64 h.t.n.qb, .int .i64 h.t.n.si, .int .i32 h.t.n.st, slV h.t.i, slV h.t.p, .int .i32 h.t.n.co, slV h.t.s] 35))
  have HZ0 := Lib.hid (sz1 w (.cells #[.int .i64 h.se, .int .i32 h.xi, .int .i64 h.zx, .int .i64 h.ti, .int .i32 h.t.n.ty, .string h.t.n.path, slV h.t.d, slV h.t.a, .int .i64 h.t.n.ow, .int .i32 h.t.n.ve, .int .i32 h.t.n.cr, .bool h.t.n.qh, .int .i64 h.t.n.qc, .int .i64 h.t.n.qb, .int .i64 h.t.n.si, .int .i32 h.t.n.st, slV h.t.i, slV h.t.p, .int .i32 h.t.n.co, slV h.t.s] 35))
  have HB := Lib.hid hb0
  have hmm := @run_makeMap Tryz.prog
  clear hb0
  go_enter Tryz.func26, Tryz.ntmps26
  go_upto_region 1 with fail
  generalize w.alloc (.cells #[.int .i64 h.se, .int .i32 h.xi, .int .i64 h.zx, .int .i64 h.ti, .int .i32 h.t.n.ty, .string h.t.n.path, slV h.t.d, slV h.t.a, .int .i64 h.t.n.ow, .int .i32 h.t.n.ve, .int .i32 h.t.n.cr, .bool h.t.n.qh, .int .i64 h.t.n.qc, .int .i64 h.t.n.qb, .int .i64 h.t.n.si, .int .i32 h.t.n.st, slV h.t.i, slV h.t.p, .int .i32 h.t.n.co, slV h.t.s] 35) = W at *
  go_upto_region 2 with fail
  have hb1 : Below W.heap.size W (W.alloc (.map #[] 0)) := (Below.refl _ W).alloc (Nat.le_refl _) _
  have HM0 := Lib.hid (show KeyM (W.alloc (.map #[] 0)) W.heap.size [] from ⟨[], MapK.made W, rfl⟩)
  have HZ1 := Lib.hid (sz1 W (.map #[] 0))
  have HB1 := Lib.hid (HB.out.trans (hb1.mono HB.out.size))
  have g0 : (W.alloc (.map #[] 0)).heap[w.heap.size]? = _ := (hb1.block _ (by have := HZ0.out; omega)).trans HG0.out
  clear hb1 hmm HG0
  generalize W.alloc (.map #[] 0) = W1 at *
  have hsi := HSI.out W1 HB1.out
  go_wp2_with (first
    | (apply wpList_loadRow 35 35; exact rfl; exact rfl; exact rfl; (first | assumption | (refine heap_under ?_; assumption) | (exact heap_s0 _ _) | (exact heap_s1 _ _ _) | (exact heap_under (heap_s0 _ _))); exact undDl; exact rfl; exact infDl)
    | fail)
  refine hsi.mono ?_
  rintro e w2 ⟨⟨A, c, rfl, hls⟩, hb2⟩
  have HB2 := Lib.hid (HB1.out.trans (hb2.mono HB1.out.size))
  have HM2 := Lib.hid (HM0.out.of_heap (hb2.block _ HM0.out.lt))
  obtain ⟨Hs, hrow, hHl, hHt⟩ := hls.r
  have HS := Lib.hid (own_slr hrow (fun _ => rfl) hHl)
  have HHT := Lib.hid hHt
  clear hsi hb2 g0 hls hrow hHl hHt HSI HM0
  have hnm := HNM.out
  go_wp2_with fail
  go_loopw [5, 6, 7, 12] (fun _ _ _ i wr => ∃ k : Nat, i = .int .i64 ↑k ∧ k ≤ (stepsD d).length ∧ TcR W.heap.size w2 (stepsD d) k wr) (fun _ _ _ i _ => (stepsD d).length - (RowKit.intOf i).toNat)
  case atStart => exact ⟨0, rfl, Nat.zero_le _, ⟨Fr.refl _ _, HM2.out⟩⟩
  case round =>
  obtain ⟨k, rfl, hk, hR⟩ := hrel
  have HR := Lib.hid hR
  clear hR
  by_cases hlt : k < (stepsD d).length
  · obtain ⟨b2, off, ea, hbR, hca⟩ := HS.out.2.2 (Nat.lt_of_le_of_lt (Nat.zero_le _) hlt)
    have ea : A = some ⟨b2, off, none⟩ := ea
    subst ea
    have hbR : W1.heap.size ≤ b2 := hbR
    have y6 : wr.rangeAt b2 (off + k * 16) (encTx Hs[k]!) := fun i u hu => by
      have h1 := hca k hlt i u hu
      exact (HR.out.f.cell (p := ⟨b2, off + k * 16 + i, none⟩) (World.block_lt_of_cell? w2 _ h1) (by have := HZ1.out; simp; omega)).trans h1
    have HJN := Lib.hid (HHT.out k hlt).loc.1
    have HKL := Lib.hid hlt
    have HLT := Lib.hid hlt
    have hpz : Hs[k]!.n.path.size ≤ 1048576 := by
      rw [← HJN.out]
      exact HPZ.out _ (by rw [getElem!_pos _ k hlt]; exact List.getElem_mem hlt)
    have hki : (k : Int) < ((stepsD d).length : Int) := by omega
    have hk0 : (0 : Int) ≤ (k : Int) := by omega
    clear hca hbR
    generalize Hs[k]! = hj at *
    have hba := (Below.refl _ wr).alloc (Nat.le_refl _) (.cells #[.int .i32 hj.n.ty, .string hj.n.path, slV hj.d, slV hj.a, .int .i64 hj.n.ow, .int .i32 hj.n.ve, .int .i32 hj.n.cr, .bool hj.n.qh, .int .i64 hj.n.qc, .int .i64 hj.n.qb, .int .i64 hj.n.si, .int .i32 hj.n.st, slV hj.i, slV hj.p, .int .i32 hj.n.co, slV hj.s] 33)
    have HFA := Lib.hid (HR.out.f.trans (Fr.of_below (own := []) hba) (fun g hg => by simp at hg))
    have hbl := HR.out.m.lt
    obtain ⟨w5, r5, m5, g5, z5⟩ := KeyM.add (HR.out.m.of_heap (hba.block _ hbl)) (p := hj.n.path) hpz (.agg #[])
    have HM5 := Lib.hid m5
    have HF5 := Lib.hid (HFA.out.trans (Fr.of_grown (own := [W.heap.size]) g5 (by simp)) (fun g hg => .inl hg))
    have HFB := Lib.hid (fun (V : World) (hV : Fr [W.heap.size] w2 V) => HB2.out.trans (hV.below HB2.out.size (fun g hg => by have := HZ0.out; simp at hg; omega)))
    have gj : w5.heap[wr.heap.size]? = some (.cells #[.int .i32 hj.n.ty, .string hj.n.path, slV hj.d, slV hj.a, .int .i64 hj.n.ow, .int .i32 hj.n.ve, .int .i32 hj.n.cr, .bool hj.n.qh, .int .i64 hj.n.qc, .int .i64 hj.n.qb, .int .i64 hj.n.si, .int .i32 hj.n.st, slV hj.i, slV hj.p, .int .i32 hj.n.co, slV hj.s] 33 (0, 0)) := (g5.block wr.heap.size (by rw [sz1]; exact Nat.lt_succ_self _) (by intro e; injection e with e; omega)).trans (heap_s0 wr _)
    have x50 : w5.cell? ⟨wr.heap.size, 0, none⟩ = some (.int .i32 hj.n.ty) := by rw [cellH gj]; rfl
    have x51 : w5.cell? ⟨wr.heap.size, 1, none⟩ = some (.string hj.n.path) := by rw [cellH gj]; rfl
    clear hba m5 g5 z5 gj hbl
    by_cases hty : hj.n.ty = 1
    · have hb1 : (hj.n.ty == 1) = true := by rw [hty]; rfl
      have hb2 : (hj.n.ty == 2) = false := by rw [hty]; rfl
      have HK2 := Lib.hid (show tKey (stepsD d)[k]! = [hj.n.path, parE hj.n.path] by unfold tKey; rw [HJN.out, hty]; rfl)
      have HPA := Lib.hid (parent_any hj.n.path (Nat.lt_of_le_of_lt hpz (by decide)) w5 (HE.out.later (HFB.out w5 HF5.out)))
      clear hty
      go_wp2_with (first
        | (apply wpList_loadMid 33; exact rfl; exact rfl; exact rfl; exact (by assumption); exact undTx; exact rfl; exact infTx)
        | (apply wpList_storeTop 33 33; exact rfl; exact rfl; exact rfl; (first | (with_reducible rfl) | (exact sz1 _ _) | (exact sz2 _ _ _)); exact rfl; exact infTx; exact rfl; (first | exact oneTx _ | simp [Value.oneCell']))
        | (apply wpList_loadRow 33 33; exact rfl; exact rfl; exact rfl; (first | assumption | (refine heap_under ?_; assumption) | (exact heap_s0 _ _) | (exact heap_s1 _ _ _) | (exact heap_under (heap_s0 _ _))); exact undTx; exact rfl; exact infTx)
        | fail)
      refine HPA.out.mono ?_
      rintro e w6 ⟨rfl, hb6⟩
      have HB6 := Lib.hid hb6
      have HF6 := Lib.hid (HF5.out.trans (Fr.of_below (own := []) hb6) (fun g hg => by simp at hg))
      obtain ⟨w7, r7, m7, g7, z7⟩ := KeyM.add (HM5.out.of_heap (hb6.block _ HM5.out.lt)) (p := parE hj.n.path) (Nat.le_trans (parE_size _) hpz) (.agg #[])
      have HM7 := Lib.hid m7
      have HF7 := Lib.hid (HF6.out.trans (Fr.of_grown (own := [W.heap.size]) g7 (by simp)) (fun g hg => .inl hg))
      change (Instr.mapUpdate 85 (.map (some W.heap.size)) (.string (if validP hj.n.path && !decide (hj.n.path = sSlash) then parP hj.n.path else ⟨#[]⟩)) (.agg #[])).run Tryz.prog w6 = .ok () w7 at r7
      have HKN := Lib.hid (show keysOf (tKeys ((stepsD d).take (k + 1))) = addK (addK (keysOf (tKeys ((stepsD d).take k))) hj.n.path) (parE hj.n.path) by rw [tKeys_snoc HKL.out, HK2.out, show tKeys ((stepsD d).take k) ++ [hj.n.path, parE hj.n.path] = (tKeys ((stepsD d).take k) ++ [hj.n.path]) ++ [parE hj.n.path] by simp, keysOf_snoc, keysOf_snoc])
      generalize (if validP hj.n.path && !decide (hj.n.path = sSlash) then parP hj.n.path else ⟨#[]⟩ : ByteArray) = pp at r7 ⊢
      generalize (if validP hj.n.path && !decide (hj.n.path = sSlash) then 0 else 30 : Int) = ee at *
      clear hb6 m7 g7 z7 r5 x50 x51 y6
      go_wp2_with fail
      go_roundw
      case rel => exact ⟨k + 1, by go_num, by have := HLT.out; omega, ⟨HF7.out, by rw [HKN.out]; exact HM7.out⟩⟩
      case measure => have := HLT.out; simp [RowKit.intOf]; omega

    by_cases hty2 : hj.n.ty = 2
    · have hty := hty2
      clear hty2
      have hb1 : (hj.n.ty == 1) = false := by rw [hty]; rfl
      have hb2 : (hj.n.ty == 2) = true := by rw [hty]; rfl
      have HK2 := Lib.hid (show tKey (stepsD d)[k]! = [hj.n.path, parE hj.n.path] by unfold tKey; rw [HJN.out, hty]; rfl)
      have HPA := Lib.hid (parent_any hj.n.path (Nat.lt_of_le_of_lt hpz (by decide)) w5 (HE.out.later (HFB.out w5 HF5.out)))
      clear hty
      go_wp2_with (first
        | (apply wpList_loadMid 33; exact rfl; exact rfl; exact rfl; exact (by assumption); exact undTx; exact rfl; exact infTx)
        | (apply wpList_storeTop 33 33; exact rfl; exact rfl; exact rfl; (first | (with_reducible rfl) | (exact sz1 _ _) | (exact sz2 _ _ _)); exact rfl; exact infTx; exact rfl; (first | exact oneTx _ | simp [Value.oneCell']))
        | (apply wpList_loadRow 33 33; exact rfl; exact rfl; exact rfl; (first | assumption | (refine heap_under ?_; assumption) | (exact heap_s0 _ _) | (exact heap_s1 _ _ _) | (exact heap_under (heap_s0 _ _))); exact undTx; exact rfl; exact infTx)
        | fail)
      refine HPA.out.mono ?_
      rintro e w6 ⟨rfl, hb6⟩
      have HB6 := Lib.hid hb6
      have HF6 := Lib.hid (HF5.out.trans (Fr.of_below (own := []) hb6) (fun g hg => by simp at hg))
      obtain ⟨w7, r7, m7, g7, z7⟩ := KeyM.add (HM5.out.of_heap (hb6.block _ HM5.out.lt)) (p := parE hj.n.path) (Nat.le_trans (parE_size _) hpz) (.agg #[])
      have HM7 := Lib.hid m7
      have HF7 := Lib.hid (HF6.out.trans (Fr.of_grown (own := [W.heap.size]) g7 (by simp)) (fun g hg => .inl hg))
      change (Instr.mapUpdate 85 (.map (some W.heap.size)) (.string (if validP hj.n.path && !decide (hj.n.path = sSlash) then parP hj.n.path else ⟨#[]⟩)) (.agg #[])).run Tryz.prog w6 = .ok () w7 at r7
      have HKN := Lib.hid (show keysOf (tKeys ((stepsD d).take (k + 1))) = addK (addK (keysOf (tKeys ((stepsD d).take k))) hj.n.path) (parE hj.n.path) by rw [tKeys_snoc HKL.out, HK2.out, show tKeys ((stepsD d).take k) ++ [hj.n.path, parE hj.n.path] = (tKeys ((stepsD d).take k) ++ [hj.n.path]) ++ [parE hj.n.path] by simp, keysOf_snoc, keysOf_snoc])
      generalize (if validP hj.n.path && !decide (hj.n.path = sSlash) then parP hj.n.path else ⟨#[]⟩ : ByteArray) = pp at r7 ⊢
      generalize (if validP hj.n.path && !decide (hj.n.path = sSlash) then 0 else 30 : Int) = ee at *
      clear hb6 m7 g7 z7 r5 x50 x51 y6
      go_wp2_with fail
      go_roundw
      case rel => exact ⟨k + 1, by go_num, by have := HLT.out; omega, ⟨HF7.out, by rw [HKN.out]; exact HM7.out⟩⟩
      case measure => have := HLT.out; simp [RowKit.intOf]; omega

    have hb1 : (hj.n.ty == 1) = false := beq_eq_false_iff_ne.2 hty
    have hb2 : (hj.n.ty == 2) = false := beq_eq_false_iff_ne.2 hty2
    have HKN := Lib.hid (show keysOf (tKeys ((stepsD d).take (k + 1))) = addK (keysOf (tKeys ((stepsD d).take k))) hj.n.path by rw [tKeys_snoc HKL.out, show tKey (stepsD d)[k]! = [hj.n.path] by unfold tKey; rw [HJN.out, if_neg (by intro h; rcases h with h | h; exact hty h; exact hty2 h)], keysOf_snoc])
    clear hty hty2
    go_wp2_with (first
      | (apply wpList_loadMid 33; exact rfl; exact rfl; exact rfl; exact (by assumption); exact undTx; exact rfl; exact infTx)
      | (apply wpList_storeTop 33 33; exact rfl; exact rfl; exact rfl; (first | (with_reducible rfl) | (exact sz1 _ _) | (exact sz2 _ _ _)); exact rfl; exact infTx; exact rfl; (first | exact oneTx _ | simp [Value.oneCell']))
      | (apply wpList_loadRow 33 33; exact rfl; exact rfl; exact rfl; (first | assumption | (refine heap_under ?_; assumption) | (exact heap_s0 _ _) | (exact heap_s1 _ _ _) | (exact heap_under (heap_s0 _ _))); exact undTx; exact rfl; exact infTx)
      | fail)
    go_roundw
    case rel => exact ⟨k + 1, by go_num, by have := HLT.out; omega, ⟨HF5.out, by rw [HKN.out]; exact HM5.out⟩⟩
    case measure => have := HLT.out; simp [RowKit.intOf]; omega
  obtain rfl : k = (stepsD d).length := by omega
  have hki : ¬ (((stepsD d).length : Int) < ((stepsD d).length : Int)) := by omega
  obtain ⟨l, hml, hel⟩ := HR.out.m
  rw [List.take_length] at hel
  have HSO := Lib.hid (sortedS_any W.heap.size l wr hml (by have h1 := congrArg List.length hel; have h2 := keysOf_le (tKeys (stepsD d)); have h3 := tKeys_le (stepsD d); rw [List.length_map] at h1; omega))
  rw [hel] at HSO
  have HFB := Lib.hid (HB2.out.trans (HR.out.f.below HB2.out.size (fun g hg => by have := HZ0.out; simp at hg; omega)))
  clear hml hel
  go_wp2_with fail
  refine (keysS_any (some W.heap.size) wr).mono ?_
  rintro e w3 ⟨rfl, rfl⟩
  go_wp2_with fail
  refine HSO.out.mono ?_
  rintro e w4 ⟨A4, c4, rfl, hrow, hb4⟩
  have HRW := Lib.hid hrow; have HB4 := Lib.hid hb4
  clear hrow hb4
  go_wp2_with fail
  go_ret
  have hba := (Below.refl _ wr).alloc (Nat.le_refl _) (.cells #[.map (some W.heap.size)] 85)
  exact ⟨A4, c4, rfl, own_mono HRW.out (Nat.le_trans HFB.out.size hba.size), HFB.out.trans ((hba.mono HFB.out.size).trans (HB4.out.mono (Nat.le_trans HFB.out.size hba.size)))⟩
end Go.Proofs.YthpjneobmmpbnaaGreatDoor

/- The walks of the document's own and Right of a delta. Condition: bulk at most 2^20. -/
import Derived.Test.YtbpmmmnphpkdjaaGreatDoorWRfC
import Derived.Test.YtbpmmmnphpkdjaaGreatDoorWRfD
import Derived.Test.YtbpmmmnphpkdjaaGreatDoorWRgtP
namespace Go.Proofs.YtbpmmmnphpkdjaaGreatDoor
set_option linter.unusedSimpArgs false
set_option maxRecDepth 100000
set_option maxHeartbeats 20000000
open Go.RowKit Go.MapKept
theorem qfF (z : Int) (h : TxH) (v : TxF) (w : World) (R : Nat → Prop) (hv : locTx w R h v) (hsm : TxSm 1048576 v h.s.2.1) (hz : in64 z) :
  Calls Tryz.prog 143 #[txV h, .int .i64 z] w (OwnEP z v h.s.2.1 w) := by
 have HR := Lib.hid (show ownE z v h.s.2.1 = if qbH v then 30 else if qbz v h.s.2.1 then 3 else if (qbJ v h.s.2.1 || oddR z v) then 1 else 0 by rw [qnZ]; rfl)
 have HCN := Lib.hid (fun W (hW : Below w.heap.size w W) => qhl h v W _ (hv.down hW) hsm)
 have HCG := Lib.hid (fun W (hW : Below w.heap.size w W) => qhh h v W _ (hv.down hW) hsm)
 have HCS := Lib.hid (fun W (hW : Below w.heap.size w W) => qhm h v W _ (hv.down hW))
 have HCO := Lib.hid (fun W (hW : Below w.heap.size w W) => qkf z h v W _ (hv.down hW) hsm hz)
 have hb0 : Below w.heap.size w (w.alloc (.cells (rwTx h) 52)) := (Below.refl _ w).alloc (Nat.le_refl _) _
 have hg0 := qab w (.cells (rwTx h) 52)
 have HZ := Lib.hid (sz1 w (.cells (rwTx h) 52))
 have HB := Lib.hid hb0
 clear hb0 hv hsm hz
 unfold txV
 go_enter Tryz.func143, Tryz.ntmps143
 go_upto_region 1 with fail
 generalize w.alloc (.cells (rwTx h) 52) = W at *
 go_wp2_with (first | (apply qaw 52 52; exact rfl; exact rfl; exact rfl; (first | assumption | (refine qaa ?_; assumption) | (exact qab _ _) | (exact qae _ _ _) | (exact qag _ _ _ _) | (exact qas _ _ _ _ _) | (exact qaa (qab _ _)) | (exact qaa (qae _ _ _)) | (exact qaa (qag _ _ _ _)) | (exact qaa (qaa (qab _ _))) | (exact qaa (qaa (qae _ _ _))) | (exact qaa (qaa (qaa (qab _ _))))); exact qaF; exact rfl; exact qap) | fail)
 refine (HCN.out W HB.out).mono ?_
 rintro e w1 ⟨rfl, hb⟩
 have hg1 := (hb.block w.heap.size (by have := HZ.out; omega)).trans hg0
 have HZ1 := Lib.hid (show w.heap.size < w1.heap.size by have := HZ.out; have := hb.size; omega)
 have HB1 := Lib.hid (HB.out.trans (hb.mono HB.out.size))
 clear hb hg0 HCN
 cases hn : qbH v with
 | true =>
  have hne : qbS v = 30 := by unfold qbS; rw [hn]; rfl
  have HN := Lib.hid (show ownE z v h.s.2.1 = 30 by rw [HR.out, hn]; rfl)
  rw [hne]
  clear hn hne
  go_wp2_with fail
  go_ret
  exact OwnEP.mk HB1.out HN.out
 | false =>
  have hne : qbS v = 0 := by unfold qbS; rw [hn]; rfl
  rw [hn] at HR
  rw [hne]
  clear hn hne
  go_wp2_with (first | (apply qaw 52 52; exact rfl; exact rfl; exact rfl; (first | assumption | (refine qaa ?_; assumption) | (exact qab _ _) | (exact qae _ _ _) | (exact qag _ _ _ _) | (exact qas _ _ _ _ _) | (exact qaa (qab _ _)) | (exact qaa (qae _ _ _)) | (exact qaa (qag _ _ _ _)) | (exact qaa (qaa (qab _ _))) | (exact qaa (qaa (qae _ _ _))) | (exact qaa (qaa (qaa (qab _ _))))); exact qaF; exact rfl; exact qap) | fail)
  refine (HCG.out w1 HB1.out).mono ?_
  rintro e w2 ⟨rfl, hb⟩
  have hg2 := (hb.block w.heap.size HZ1.out).trans hg1
  have HZ2 := Lib.hid (show w.heap.size < w2.heap.size by have := HZ1.out; have := hb.size; omega)
  have HB2 := Lib.hid (HB1.out.trans (hb.mono HB1.out.size))
  clear hb hg1 HCG
  cases hq : qbz v h.s.2.1 with
  | true =>
   have HN := Lib.hid (show ownE z v h.s.2.1 = 3 by rw [HR.out, hq]; rfl)
   clear hq
   go_wp2_with fail
   go_ret
   exact OwnEP.mk HB2.out HN.out
  | false =>
   rw [hq] at HR
   clear hq
   go_wp2_with (first | (apply qaw 52 52; exact rfl; exact rfl; exact rfl; (first | assumption | (refine qaa ?_; assumption) | (exact qab _ _) | (exact qae _ _ _) | (exact qag _ _ _ _) | (exact qas _ _ _ _ _) | (exact qaa (qab _ _)) | (exact qaa (qae _ _ _)) | (exact qaa (qag _ _ _ _)) | (exact qaa (qaa (qab _ _))) | (exact qaa (qaa (qae _ _ _))) | (exact qaa (qaa (qaa (qab _ _))))); exact qaF; exact rfl; exact qap) | fail)
   refine (HCS.out w2 HB2.out).mono ?_
   rintro e w3 ⟨rfl, hb⟩
   have hg3 := (hb.block w.heap.size HZ2.out).trans hg2
   have HB3 := Lib.hid (HB2.out.trans (hb.mono HB2.out.size))
   clear hb hg2 HCS
   cases hs : qbJ v h.s.2.1 with
   | true =>
    have HN := Lib.hid (show ownE z v h.s.2.1 = 1 by rw [HR.out, hs]; rfl)
    clear hs
    go_wp2_with fail
    go_ret
    exact OwnEP.mk HB3.out HN.out
   | false =>
    rw [hs, Bool.false_or] at HR
    clear hs
    have q0 : w3.cell? ⟨w.heap.size, 0, none⟩ = some (.int .i32 h.n.ty) := by rw [qaf hg3]; rfl
    have q1 : w3.cell? ⟨w.heap.size, 1, none⟩ = some (.string h.n.path) := by rw [qaf hg3]; rfl
    have q2 : w3.cell? ⟨w.heap.size, 2, none⟩ = some (slV h.d) := by rw [qaf hg3]; rfl
    have q3 : w3.cell? ⟨w.heap.size, 3, none⟩ = some (slV h.a) := by rw [qaf hg3]; rfl
    have q4 : w3.cell? ⟨w.heap.size, 4, none⟩ = some (.int .i64 h.n.ow) := by rw [qaf hg3]; rfl
    have q5 : w3.cell? ⟨w.heap.size, 5, none⟩ = some (.int .i32 h.n.ve) := by rw [qaf hg3]; rfl
    have q6 : w3.cell? ⟨w.heap.size, 6, none⟩ = some (.int .i32 h.n.cr) := by rw [qaf hg3]; rfl
    have q7 : w3.cell? ⟨w.heap.size, 7, none⟩ = some (.bool h.n.qh) := by rw [qaf hg3]; rfl
    have q8 : w3.cell? ⟨w.heap.size, 8, none⟩ = some (.int .i64 h.n.qc) := by rw [qaf hg3]; rfl
    have q9 : w3.cell? ⟨w.heap.size, 9, none⟩ = some (.int .i64 h.n.qb) := by rw [qaf hg3]; rfl
    have q10 : w3.cell? ⟨w.heap.size, 10, none⟩ = some (.int .i64 h.n.si) := by rw [qaf hg3]; rfl
    have q11 : w3.cell? ⟨w.heap.size, 11, none⟩ = some (.int .i32 h.n.st) := by rw [qaf hg3]; rfl
    have q12 : w3.cell? ⟨w.heap.size, 12, none⟩ = some (slV h.i) := by rw [qaf hg3]; rfl
    have q13 : w3.cell? ⟨w.heap.size, 13, none⟩ = some (slV h.p) := by rw [qaf hg3]; rfl
    have q14 : w3.cell? ⟨w.heap.size, 14, none⟩ = some (.int .i32 h.n.co) := by rw [qaf hg3]; rfl
    have q15 : w3.cell? ⟨w.heap.size, 15, none⟩ = some (slV h.s) := by rw [qaf hg3]; rfl
    go_wp2_with fail
    refine (HCO.out w3 HB3.out).mono ?_
    rintro e w4 ⟨rfl, hb⟩
    have HB4 := Lib.hid (HB3.out.trans (hb.mono HB3.out.size))
    clear hb hg3 HCO
    cases ho : oddR z v with
    | true =>
     have HN := Lib.hid (show ownE z v h.s.2.1 = 1 by rw [HR.out, ho]; rfl)
     clear ho
     go_wp2_with fail
     go_ret
     exact OwnEP.mk HB4.out HN.out
    | false =>
     have HN := Lib.hid (show ownE z v h.s.2.1 = 0 by rw [HR.out, ho]; rfl)
     clear ho
     go_wp2_with fail
     go_ret
     exact OwnEP.mk HB4.out HN.out
theorem qhV (h : DlH) (d : DlT) (w : World) (R : Nat → Prop) (hd : DlAt w R h d) (hsm : DlSm 1048576 d) : Calls Tryz.prog 113 #[dlV h] w (RgtP d w) := by
 obtain ⟨⟨e0, e1, e2, e3⟩, ht⟩ := hd
 obtain ⟨⟨_, _, q2, _⟩, hok⟩ := hsm
 have hl := ht.loc
 obtain ⟨L, hL, hsub⟩ := ht.subs_at
 have hn := hl.1
 have hlen := ht.len
 have HO := Lib.hid (fun W (hW : Below w.heap.size w W) => qfF h.zx h.t d.t.v W _ (hl.down hW) (by have := hok.top; rw [hlen] at this; exact this) (by rw [← e2]; exact q2))
 have HS := Lib.hid (fun (W : World) (hW : Below w.heap.size w W) (k : Nat) (hk : k < h.t.s.2.1) => qfF h.zx L[k]! d.t.subs[k]!.v W _ ((hsub k hk).loc.down hW) (by have := (hok.subAt (j := k) (by rw [hlen]; exact hk)).top; rw [(hsub k hk).len] at this; exact this) (by rw [← e2]; exact q2))
 have HLC := Lib.hid (fun (k : Nat) (hk : k < h.t.s.2.1) => (hsub k hk).loc.1)
 have HLN := Lib.hid (fun (k : Nat) (hk : k < h.t.s.2.1) => (hsub k hk).len)
 have HL := Lib.hid hL; have HLEN := Lib.hid hlen
 have HR := Lib.hid (show qaQ d = if !qbt h.t.n.ty then 110 else if h.zx < 1 then 1 else if ownE h.zx d.t.v h.t.s.2.1 ≠ 0 then ownE h.zx d.t.v h.t.s.2.1 else qbL h.zx d.t.subs by unfold qaQ; rw [hn, hlen, e2])
 have HSB := Lib.hid (show h.t.s.2.1 ≤ 1048576 by have := hok.top.2.2.2.2.2.2.1; rw [hlen] at this; exact this)
 have HFE := Lib.hid (qhS h.t.n.ty)
 clear ht hok hl hL hsub hlen hn e0 e1 e2 e3 q2
 have hb0 : Below w.heap.size w (w.alloc (.cells (rwDl h) 54)) := (Below.refl _ w).alloc (Nat.le_refl _) _
 have HG0 := Lib.hid (qab w (.cells (rwDl h) 54))
 have HZ0 := Lib.hid (sz1 w (.cells (rwDl h) 54))
 have HB := Lib.hid hb0
 have y1 : (w.alloc (.cells (rwDl h) 54)).rangeAt w.heap.size 4 [.int .i32 h.t.n.ty, .string h.t.n.path, slV h.t.d, slV h.t.a, .int .i64 h.t.n.ow, .int .i32 h.t.n.ve, .int .i32 h.t.n.cr, .bool h.t.n.qh, .int .i64 h.t.n.qc, .int .i64 h.t.n.qb, .int .i64 h.t.n.si, .int .i32 h.t.n.st, slV h.t.i, slV h.t.p, .int .i32 h.t.n.co, slV h.t.s] := qeA (pre := [.int .i64 h.se, .int .i32 h.xi, .int .i64 h.zx, .int .i64 h.ti]) (mid := [.int .i32 h.t.n.ty, .string h.t.n.path, slV h.t.d, slV h.t.a, .int .i64 h.t.n.ow, .int .i32 h.t.n.ve, .int .i32 h.t.n.cr, .bool h.t.n.qh, .int .i64 h.t.n.qc, .int .i64 h.t.n.qb, .int .i64 h.t.n.si, .int .i32 h.t.n.st, slV h.t.i, slV h.t.p, .int .i32 h.t.n.co, slV h.t.s]) (post := []) HG0.out rfl rfl
 clear hb0
 unfold dlV
 go_enter Tryz.func113, Tryz.ntmps113
 go_upto_region 1 with fail
 generalize w.alloc (.cells (rwDl h) 54) = W at *
 have HZ1 := Lib.hid (sz1 W (.cells (rwTx h.t) 52))
 have HG1 := Lib.hid (qab W (.cells (rwTx h.t) 52))
 have hb1 : Below W.heap.size W (W.alloc (.cells (rwTx h.t) 52)) := (Below.refl _ W).alloc (Nat.le_refl _) _
 have HB2 := Lib.hid (HB.out.trans (hb1.mono HB.out.size))
 have HG0' := Lib.hid ((hb1.block w.heap.size (by have := HZ0.out; omega)).trans HG0.out)
 have hW1 : W.heap.size = w.heap.size + 1 := HZ0.out
 clear hb1 HG0 HZ0 HB
 go_upto_region 2 with (first
  | (apply qau 52; exact rfl; exact rfl; exact rfl; exact y1; exact qaF; exact rfl; exact qap)
  | (apply qai 52 52; exact rfl; exact rfl; exact rfl; (first | (with_reducible rfl) | (exact sz1 _ _) | (exact sz2 _ _ _) | (exact sz3 _ _ _ _)); exact rfl; exact qap; exact rfl; simp [Value.oneCell'])
  | fail)
 clear y1
 generalize W.alloc (.cells (rwTx h.t) 52) = W2 at *
 rw [hW1] at HG1 HZ1
 clear hW1
 generalize (Value.agg (rwDl h)) = arg0 at *
 have HD2 := Lib.hid (fun (V : World) (hV : Below W2.heap.size W2 V) => (show V.cell? ⟨w.heap.size, 2, none⟩ = some (.int .i64 h.zx) by rw [qaf ((hV.block _ (by have := HZ1.out; omega)).trans HG0'.out)]; rfl))
 have HD0 := Lib.hid (fun (V : World) (hV : Below W2.heap.size W2 V) => (show V.cell? ⟨w.heap.size + 1, 0, none⟩ = some (.int .i32 h.t.n.ty) by rw [qaf ((hV.block _ (by have := HZ1.out; omega)).trans HG1.out)]; rfl))
 have HD15 := Lib.hid (fun (V : World) (hV : Below W2.heap.size W2 V) => (show V.cell? ⟨w.heap.size + 1, 15, none⟩ = some (slV h.t.s) by rw [qaf ((hV.block _ (by have := HZ1.out; omega)).trans HG1.out)]; rfl))
 have x0 := HD0.out W2 (Below.refl _ _); have x2 := HD2.out W2 (Below.refl _ _)
 cases hkn : qbt h.t.n.ty with
 | false =>
  have HV := Lib.hid (show qaQ d = 110 by rw [HR.out, hkn]; rfl)
  have hfe : (qaR h.t.n.ty).toList.isEmpty = true := by rw [HFE.out, hkn]; rfl
  clear hkn
  go_wp2_with fail
  refine (qci _ _).mono ?_
  rintro e w1 ⟨rfl, rfl⟩
  go_wp2_with fail
  go_ret
  exact RgtP.mk HB2.out HV.out
 | true =>
 rw [hkn] at HR
 have hfe : (qaR h.t.n.ty).toList.isEmpty = false := by rw [HFE.out, hkn]; rfl
 clear hkn
 by_cases hz : h.zx < 1
 ·have HV := Lib.hid (show qaQ d = 1 by rw [HR.out, if_pos hz]; rfl)
  have d1 : decide (h.zx < 1) = true := decide_eq_true hz
  clear hz
  go_wp2_with fail
  refine (qci _ _).mono ?_
  rintro e w1 ⟨rfl, rfl⟩
  go_wp2_with fail
  go_ret
  exact RgtP.mk HB2.out HV.out
 have HV := Lib.hid (show qaQ d = if ownE h.zx d.t.v h.t.s.2.1 ≠ 0 then ownE h.zx d.t.v h.t.s.2.1 else qbL h.zx d.t.subs by rw [HR.out, if_neg hz]; rfl)
 have d1 : decide (h.zx < 1) = false := decide_eq_false hz
 clear HR hz
 go_wp2_with fail
 refine (qci _ _).mono ?_
 rintro e W2 ⟨rfl, rfl⟩
 have hg1 := HG1.out
 go_wp2_with (first | (apply qaw 52 52; exact rfl; exact rfl; exact rfl; (first | assumption | (refine qaa ?_; assumption) | (exact qab _ _) | (exact qae _ _ _) | (exact qag _ _ _ _) | (exact qas _ _ _ _ _) | (exact qaa (qab _ _)) | (exact qaa (qae _ _ _)) | (exact qaa (qag _ _ _ _)) | (exact qaa (qaa (qab _ _))) | (exact qaa (qaa (qae _ _ _))) | (exact qaa (qaa (qaa (qab _ _))))); exact qaF; exact rfl; exact qap) | fail)
 refine (HO.out W2 HB2.out).mono ?_
 rintro e w1 ⟨rfl, hb⟩
 have HB3 := Lib.hid hb
 clear hb hg1 x0 x2 HO
 by_cases ho : ownE h.zx d.t.v h.t.s.2.1 = 0
 case neg =>
  have HV2 := Lib.hid (show qaQ d = ownE h.zx d.t.v h.t.s.2.1 by rw [HV.out, if_pos ho])
  generalize ownE h.zx d.t.v h.t.s.2.1 = x at *
  have d2 : (x != 0) = true := bne_iff_ne.2 ho
  go_wp2_with fail
  go_ret
  exact RgtP.mk (HB2.out.trans (HB3.out.mono HB2.out.size)) HV2.out
 have HV2 := Lib.hid (show qaQ d = qbL h.zx d.t.subs by rw [HV.out, if_neg (by simp [ho])])
 rw [ho]
 clear ho HV hfe d1
 go_wp2_with fail
 go_loopw [5, 6] (fun i _ wr => ∃ k : Nat, i = .int .i64 ↑k ∧ k ≤ h.t.s.2.1 ∧ qbL h.zx (d.t.subs.drop k) = qbL h.zx d.t.subs ∧ Below W2.heap.size W2 wr) (fun i _ _ => h.t.s.2.1 - (intOf i).toNat)
 case atStart => exact ⟨0, rfl, Nat.zero_le _, rfl, HB3.out⟩
 case round =>
 obtain ⟨k, rfl, hk, hS, hb⟩ := hrel
 have HSS := Lib.hid hS; have HBR := Lib.hid hb
 have HBW := Lib.hid (HB2.out.trans (hb.mono HB2.out.size))
 clear hS hb
 have x15 := HD15.out wr HBR.out
 by_cases hlt : k < h.t.s.2.1
 ·have hlb := HSB.out
  obtain ⟨b, off, hA, _, hc⟩ := HL.out.2.2 (by omega)
  have hr : wr.rangeAt b (off + k * 16) (qar L[k]!) := qdk (fun j u hu => hc k hlt j u hu) HBW.out
  have HST := Lib.hid (qfJ h.zx d.t.subs k (by rw [HLEN.out]; exact hlt))
  have HOX := Lib.hid (fun W (hW : Below w.heap.size w W) => HS.out W hW k hlt)
  have hln := HLN.out k hlt
  have hlc := HLC.out k hlt
  rw [hlc, hln] at HST
  have z15 : wr.cell? ⟨w.heap.size + 1, 15, none⟩ = some (.slice (some ⟨b, off, none⟩) h.t.s.2.1 h.t.s.2.2) := by rw [x15, ← hA]
  have z2 := HD2.out wr HBR.out
  have zt : wr.cell? ⟨b, off + k * 16, none⟩ = some (.int .i32 L[k]!.n.ty) := by have := hr 0 _ rfl; simpa using this
  have hki : (k : Int) < (h.t.s.2.1 : Int) := by omega
  have hk0 : (0 : Int) ≤ (k : Int) := by omega
  clear hc hA hln hlc x15
  generalize d.t.subs[k]!.v = vj at *
  generalize L[k]! = hj at *
  have HPT := Lib.hid (fun W => qgS hj.n.ty W)
  cases hpt : qbg hj.n.ty with
  | false =>
   rw [hpt] at HST HPT
   have HX := Lib.hid (show qaQ d = 110 by rw [HV2.out, ← HSS.out, HST.out]; rfl)
   clear hpt HOX
   go_wp2_with fail
   refine (HPT.out _).mono ?_
   rintro e w2 ⟨rfl, rfl⟩
   go_wp2_with fail
   go_ret
   exact RgtP.mk HBW.out HX.out
  | true =>
   rw [hpt] at HST HPT
   clear hpt
   go_wp2_with fail
   refine (HPT.out _).mono ?_
   rintro e wr ⟨rfl, rfl⟩
   go_upto_region 14 with fail
   have HS0 := Lib.hid (fun (V : World) (hV : Below wr.heap.size wr V) => (show V.cell? ⟨w.heap.size + 1, 15, none⟩ = some (.slice (some ⟨b, off, none⟩) h.t.s.2.1 h.t.s.2.2) ∧ V.rangeAt b (off + k * 16) [.int .i32 hj.n.ty, .string hj.n.path, slV hj.d, slV hj.a, .int .i64 hj.n.ow, .int .i32 hj.n.ve, .int .i32 hj.n.cr, .bool hj.n.qh, .int .i64 hj.n.qc, .int .i64 hj.n.qb, .int .i64 hj.n.si, .int .i32 hj.n.st, slV hj.i, slV hj.p, .int .i32 hj.n.co, slV hj.s] ∧ V.cell? ⟨w.heap.size, 2, none⟩ = some (.int .i64 h.zx) from ⟨qaC z15 hV, qdk hr hV, qaC z2 hV⟩))
   refine qaP (S := fun V => V.cell? ⟨w.heap.size + 1, 15, none⟩ = some (.slice (some ⟨b, off, none⟩) h.t.s.2.1 h.t.s.2.2) ∧ V.rangeAt b (off + k * 16) [.int .i32 hj.n.ty, .string hj.n.path, slV hj.d, slV hj.a, .int .i64 hj.n.ow, .int .i32 hj.n.ve, .int .i32 hj.n.cr, .bool hj.n.qh, .int .i64 hj.n.qc, .int .i64 hj.n.qb, .int .i64 hj.n.si, .int .i32 hj.n.st, slV hj.i, slV hj.p, .int .i32 hj.n.co, slV hj.s] ∧ V.cell? ⟨w.heap.size, 2, none⟩ = some (.int .i64 h.zx)) 9 (by kernel_rfl) (HS0.out _ (qaj wr)) (fun hHeld => ?_)
   have HBR2 := Lib.hid (HBR.out.trans ((qaj wr).mono HBR.out.size))
   have HBD := Lib.hid (qaj wr)
   generalize wr.drew = V0 at *
   refine qad (i := 0) (v := .pointer (some ⟨w.heap.size + 1, 15, none⟩)) rfl (by kernel_rfl) (fun _ _ _ h => h) (Or.inl ⟨by rfl, by intro w hSw; clear hSw; go_simp⟩) (by assumption) ?_
   (try simp only [pT])
   refine qad (i := 1) (v := .slice (some ⟨b, off, none⟩) h.t.s.2.1 h.t.s.2.2) rfl (by kernel_rfl) (fun _ _ _ h => h) (Or.inl ⟨by rfl, by intro w hSw; obtain ⟨hSw, -, -⟩ := hSw; go_simp⟩) (by assumption) ?_
   (try simp only [pT])
   refine qad (i := 2) (v := .int .i64 ↑k) rfl (by kernel_rfl) (fun _ _ _ h => h) (Or.inl ⟨by rfl, by intro w hSw; clear hSw; go_simp⟩) (by assumption) ?_
   (try simp only [pT])
   refine qad (i := 3) (v := .pointer (some ⟨b, off + k * 16, none⟩)) rfl (by kernel_rfl) (fun _ _ _ h => h) (Or.inl ⟨by rfl, by intro w hSw; clear hSw; go_simp⟩) (by assumption) ?_
   (try simp only [pT])
   refine qad (i := 4) (v := .agg (rwTx hj)) rfl (by kernel_rfl) (fun _ _ _ h => h) (yieldsIf_load_mid (by rfl) 52 _ rfl b (off + k * 16) rfl [.int .i32 hj.n.ty, .string hj.n.path, slV hj.d, slV hj.a, .int .i64 hj.n.ow, .int .i32 hj.n.ve, .int .i32 hj.n.cr, .bool hj.n.qh, .int .i64 hj.n.qc, .int .i64 hj.n.qb, .int .i64 hj.n.si, .int .i32 hj.n.st, slV hj.i, slV hj.p, .int .i32 hj.n.co, slV hj.s] _ (fun _ h => h.2.1) qaF rfl qap) (by assumption) ?_
   (try simp only [pT])
   refine qad (i := 5) (v := .pointer (some ⟨w.heap.size, 2, none⟩)) rfl (by kernel_rfl) (fun _ _ _ h => h) (Or.inl ⟨by rfl, by intro w hSw; clear hSw; go_simp⟩) (by assumption) ?_
   (try simp only [pT])
   refine qad (i := 6) (v := .int .i64 h.zx) rfl (by kernel_rfl) (fun _ _ _ h => h) (Or.inl ⟨by rfl, by intro w hSw; obtain ⟨-, -, hSw⟩ := hSw; go_simp⟩) (by assumption) ?_
   (try simp only [pT])
   refine qaq (i := 7) rfl (by kernel_rfl) (fun K hK => ?_)
   go_simp
   refine (HOX.out V0 (HB2.out.trans (HBR2.out.mono HB2.out.size))).mono ?_
   rintro e w5 ⟨rfl, hb5⟩
   dsimp only
   refine hK.out _ _ (HS0.out _ (HBD.out.trans (hb5.mono HBD.out.size))) ?_
   have HB5 := Lib.hid (HBR2.out.trans (hb5.mono HBR2.out.size))
   have hHeld2 := HS0.out _ (HBD.out.trans (hb5.mono HBD.out.size))
   clear hK K hb5 HBR2 HBD hHeld
   (try simp only [pT])
   generalize ownE h.zx vj hj.s.2.1 = x at *
   refine qaq (i := 8) rfl (by kernel_rfl) (fun K hK => ?_)
   go_simp
   refine hK.out _ _ hHeld2 ?_
   clear hK K hHeld2 HS0
   (try simp only [pT])
   refine qaG (n := 9) (by kernel_rfl) ?_
   simp only [List.drop_succ_cons, List.drop_zero]
   by_cases ho : x = 0
   ·have HX := Lib.hid (show qbL h.zx (d.t.subs.drop (k + 1)) = qbL h.zx d.t.subs by rw [← HSS.out, HST.out, if_neg (by simp), if_neg (by simp [ho])])
    subst ho
    clear HST
    go_wp2_with fail
    go_roundw
    case rel => exact ⟨k + 1, by go_num, by omega, HX.out, HB5.out⟩
    case measure => simp [intOf]; omega
   ·have HX := Lib.hid (show qaQ d = x by rw [HV2.out, ← HSS.out, HST.out, if_neg (by simp), if_pos ho])
    have d2 : (x != 0) = true := bne_iff_ne.2 ho
    clear HST ho
    go_wp2_with fail
    go_ret
    exact RgtP.mk (HB2.out.trans (HB5.out.mono HB2.out.size)) HX.out
 ·have hkn : k = h.t.s.2.1 := by omega
  have HX := Lib.hid (show qaQ d = 0 by rw [HV2.out, ← HSS.out, hkn, List.drop_of_length_le (by rw [HLEN.out]; exact Nat.le_refl _)]; rfl)
  clear hkn
  go_wp2_with fail
  go_ret
  exact RgtP.mk HBW.out HX.out
end Go.Proofs.YtbpmmmnphpkdjaaGreatDoor

/- The walk of the law's asked. Condition: lists of at most 2^20. -/
import Derived.Test.YtbpmmmnphpkdjaaGreatDoorWSpo
import Derived.Test.YtbpmmmnphpkdjaaGreatDoorWRqG
import Derived.Test.YtbpmmmnphpkdjaaGreatDoorWRfM
import Derived.Test.YtbpmmmnphpkdjaaGreatDoorWWgt
namespace Go.Proofs.YtbpmmmnphpkdjaaGreatDoor
set_option linter.unusedSimpArgs false
set_option maxRecDepth 100000
set_option maxHeartbeats 20000000
open Go.RowKit Go.MapKept Go.Maps
def AskP (w0 : World) (bq br : Nat) (st : QuT) (x : QuX) (R : Nat → Prop) (y : RqX) (Q : Nat → Prop) (e : Ending) (w' : World) : Prop := e = .returned (.bool true) ∧ PlE w0 w' bq br st st x R y Q
theorem qmF (w0 w : World) (bq br : Nat) (st : QuT) (x : QuX) (R : Nat → Prop) (y : RqX) (Q : Nat → Prop) (H : PlE w0 w bq br st st x R y Q) (k on oz : Int) (h : PrH) (hno : on < 0 ∨ (st.L.length : Int) ≤ on) :
  Calls Tryz.prog 78 #[.pointer (some ⟨bq, 0, none⟩), .pointer (some ⟨br, 0, none⟩), .agg (encQo (k, on, oz) h).toArray] w (AskP w0 bq br st x R y Q) := by
 have HH := Lib.hid H
 have HG := Lib.hid (qab w (.cells (encQo (k, on, oz) h).toArray 77))
 have HB1 := Lib.hid (show Below w.heap.size w (w.alloc (.cells (encQo (k, on, oz) h).toArray 77)) from (Below.refl _ w).alloc (Nat.le_refl _) _)
 have HZ1 := Lib.hid (sz1 w (.cells (encQo (k, on, oz) h).toArray 77))
 clear H
 go_enter Tryz.func78, Tryz.ntmps78
 go_upto_region 1 with fail
 generalize w.alloc (.cells (encQo (k, on, oz) h).toArray 77) = W at *
 have HC1 := Lib.hid (fun (V : World) (hV : Below W.heap.size W V) => show V.cell? ⟨w.heap.size, 1, none⟩ = some (.int .i64 on) from by rw [qaf ((hV.block _ (by have := HZ1.out; omega)).trans HG.out)]; rfl)
 have HC2 := Lib.hid (fun (V : World) (hV : Below W.heap.size W V) => show V.cell? ⟨w.heap.size, 2, none⟩ = some (.int .i64 oz) from by rw [qaf ((hV.block _ (by have := HZ1.out; omega)).trans HG.out)]; rfl)
 have HPl := Lib.hid (fun (V : World) (hV : Below W.heap.size W V) => HH.out.later (HB1.out.trans (hV.mono HB1.out.size)))
 have x1 := HC1.out W (Below.refl _ _)
 have HGN := Lib.hid (qoy bq x R st on W (HPl.out W (Below.refl _ _)).q.q hno)
 go_wp2_with fail
 refine HGN.out.mono ?_
 rintro e w1 ⟨rfl, hb⟩
 have HZR := Lib.hid (qab w1 (.cells rzPr 63))
 have HV1 := Lib.hid (show Below W.heap.size W (w1.alloc (.cells rzPr 63)) from hb.trans (((Below.refl _ w1).alloc (Nat.le_refl _) _).mono hb.size))
 have HZ2 := Lib.hid (sz1 w1 (.cells rzPr 63))
 clear hb x1 HGN
 go_upto_region 2 with (first
  | (apply qai 63 63; exact rfl; exact rfl; exact rfl; (first | (with_reducible rfl) | (exact sz1 _ _) | (exact sz2 _ _ _) | (exact sz3 _ _ _ _)); exact rfl; exact qaI; exact rfl; (first | exact qbo _ | simp [Value.oneCell']))
  | fail)
 change Code.wp _ _ _ _ (w1.alloc (.cells rzPr 63))
 generalize w1.alloc (.cells rzPr 63) = V1 at *
 replace HC1 := Lib.hid (fun (V : World) (hV : Below V1.heap.size V1 V) => HC1.out V (HV1.out.trans (hV.mono HV1.out.size)))
 replace HC2 := Lib.hid (fun (V : World) (hV : Below V1.heap.size V1 V) => HC2.out V (HV1.out.trans (hV.mono HV1.out.size)))
 replace HPl := Lib.hid (fun (V : World) (hV : Below V1.heap.size V1 V) => HPl.out V (HV1.out.trans (hV.mono HV1.out.size)))
 have HGP := Lib.hid (fun (V : World) (hV : Below V1.heap.size V1 V) => show V.heap[w1.heap.size]? = some (.cells rzPr 63 (0, 0)) from (hV.block _ (by have := HZ2.out; omega)).trans HZR.out)
 clear HV1 HZR HZ2 HG HB1 HZ1 HH
 go_cut [9] from 23 to 35 (fun v wx => v = .bool false ∧ ∃ q, wx = V1.drewN q)
 case first =>
  have x1 := HC1.out V1 (Below.refl _ _)
  have x3 : V1.cell? ⟨br, 3, none⟩ = some (.slice y.A st.L.length y.c) := by rw [qaf (HPl.out V1 (Below.refl _ _)).r.box]; rfl
  by_cases h0 : on < 0
  ·have t1 : decide (0 ≤ on) = false := decide_eq_false (by omega)
   go_wp2_with fail
   go_quiet (fail)
   go_wp2_with fail
   go_meet
   exact ⟨rfl, _, rfl⟩
  ·have t1 : decide (0 ≤ on) = true := decide_eq_true (by omega)
   have t2 : decide (on < (st.L.length : Int)) = false := decide_eq_false (by omega)
   go_wp2_with fail
   go_quiet (fail)
   go_wp2_with fail
   go_meet
   exact ⟨rfl, _, rfl⟩
 case rest =>
 obtain ⟨rfl, q1, rfl⟩ := hcut
 have HV2 := Lib.hid (qac (Below.refl V1.heap.size V1) q1)
 generalize V1.drewN q1 = V2 at *
 have x2 := HC2.out V2 HV2.out
 have HPF := Lib.hid (HPl.out V2 HV2.out)
 have HF1 := Lib.hid (qfd bq x R st oz V2 HPF.out.q.q HPF.out.ia.rise HPF.out.ia.l4 HPF.out.q.cap)
 go_wp2_with fail
 refine HF1.out.mono ?_
 rintro e w3 ⟨rfl, hb⟩
 have HV3 := Lib.hid (HV2.out.trans (hb.mono HV2.out.size))
 clear x2 hb HPF HF1
 have x2 := HC2.out w3 HV3.out
 have HPF := Lib.hid (HPl.out w3 HV3.out)
 have HF1 := Lib.hid (qeZ w3 w0.heap.size br y Q st oz HPF.out.r HPF.out.ib.l4)
 go_wp2_with fail
 refine HF1.out.mono ?_
 rintro e w4 ⟨rfl, hb⟩
 have HV4 := Lib.hid (HV3.out.trans (hb.mono HV3.out.size))
 clear x2 hb HPF HF1
 have HP4 := Lib.hid (HPl.out w4 HV4.out)
 generalize fndN st oz = fn at *
 generalize fndB st oz = fb at *
 by_cases h0 : on < 0
 ·have t1 : decide (0 ≤ on) = false := decide_eq_false (by omega)
  have x1 := HC1.out w4 HV4.out
  have HAK := Lib.hid (fun (V : World) (hV : Below V1.heap.size V1 V) => qeu bq x R st on V (HPl.out V hV).q.q)
  have HZ := Lib.hid (show qcQ st on = 0 from if_neg (by omega))
  rw [HZ.out] at HAK
  go_wp2_with fail
  go_quiet (fail)
  rename Nat => q1
  have HV5 := Lib.hid (qac HV4.out q1)
  clear x1
  generalize w4.drewN q1 = w5 at *
  have x5 := HC1.out w5 HV5.out
  go_wp2_with fail
  refine (HAK.out w5 HV5.out).mono ?_
  rintro e w6 ⟨rfl, q6, rfl⟩
  have HV6 := Lib.hid (qac HV5.out q6)
  clear HAK HP4 HV4
  generalize w5.drewN q6 = w6 at *
  have y9 := qal (pre := []) (mid := [.int .i64 0, .int .i32 0, .int .i64 0, .int .i64 0, .int .i32 0, .string ⟨#[]⟩, .slice none 0 0, .slice none 0 0, .int .i64 0, .int .i32 0, .int .i32 0, .bool false, .int .i64 0, .int .i64 0, .int .i64 0, .int .i32 0, .slice none 0 0, .slice none 0 0, .int .i32 0, .slice none 0 0, .int .i32 0, .int .i64 0, .int .i32 0, .int .i32 0, .int .i32 0, .string ⟨#[]⟩, .int .i64 0, .int .i64 0, .int .i64 0, .int .i64 0, .int .i32 0, .int .i32 0, .int .i32 0, .int .i64 0, .int .i32 0, .int .i32 0, .int .i64 0, .slice none 0 0, .slice none 0 0, .slice none 0 0, .int .i32 0, .int .i64 0, .int .i32 0, .slice none 0 0, .slice none 0 0]) (post := []) (HGP.out w6 HV6.out) (by rfl) rfl
  have HCS := Lib.hid (fun (V : World) => show Calls Tryz.prog 35 #[.agg rzPr, .agg rzPr] V (RetB V true) from qce qeU default default V (fun _ => True) (fun _ => True) (qcD _ _) (qcD _ _) qeO)
  have HP6 := Lib.hid (HPl.out w6 HV6.out)
  go_wp2_with (first
   | (refine qdd rfl rfl ?_)
   | (apply qau 63; exact rfl; exact rfl; exact rfl; exact y9; exact qbq; exact rfl; exact qaI)
   | fail)
  refine (HCS.out _).mono ?_
  rintro e w7 ⟨rfl, hb7⟩
  have HP7 := Lib.hid (HP6.out.later hb7)
  clear hb7 HCS HP6 y9
  go_wp2_with fail
  go_ret
  exact ⟨rfl, HP7.out⟩
 ·have t1 : decide (0 ≤ on) = true := decide_eq_true (by omega)
  have x1 := HC1.out w4 HV4.out
  have HAK := Lib.hid (fun (V : World) (hV : Below V1.heap.size V1 V) => qeu bq x R st on V (HPl.out V hV).q.q)
  by_cases hv : on < st.acked.length
  ·obtain ⟨n, rfl⟩ : ∃ n : Nat, on = (n : Int) := ⟨on.toNat, by omega⟩
   have HZ := Lib.hid (show qcQ st n = st.acked[n]! from if_pos (by omega))
   have hn : n < st.acked.length := by omega
   have t3 : decide (n < st.acked.length) = true := decide_eq_true hn
   have y2 : w4.cell? ⟨br, 2, none⟩ = some (.slice (some ⟨y.gv, 0, none⟩) st.acked.length st.acked.length) := by rw [qaf HP4.out.r.box]; rfl
   have y3 := HP4.out.r.vc hn
   have hni : (n : Int) < (st.acked.length : Int) := by omega
   have hn0 : (0 : Int) ≤ (n : Int) := by omega
   rw [HZ.out] at HAK
   have HNV := Lib.hid hn
   obtain ⟨zz, hzz⟩ : ∃ zz, st.acked[n]! = zz := ⟨_, rfl⟩
   have HZZ := Lib.hid hzz
   rw [hzz] at HAK y3
   clear hv hzz HZ
   go_wp2_with fail
   go_quiet (fail)
   rename Nat => q1
   have HV5 := Lib.hid (qac HV4.out q1)
   go_upto_region 7 with fail
   clear x1 y2 y3
   generalize w4.drewN q1 = w5 at *
   have x5 := HC1.out w5 HV5.out
   have y2 : w5.cell? ⟨br, 2, none⟩ = some (.slice (some ⟨y.gv, 0, none⟩) st.acked.length st.acked.length) := by rw [qaf (HPl.out w5 HV5.out).r.box]; rfl
   have y3 : w5.cell? ⟨y.gv, n, none⟩ = some (.int .i64 zz) := by rw [(HPl.out w5 HV5.out).r.vc HNV.out, HZZ.out]
   go_quiet (fail)
   rename Nat => q2
   have HV7 := Lib.hid (qac HV5.out q2)
   clear x5 y2 y3
   generalize w5.drewN q2 = w5b at *
   have x5 := HC1.out w5b HV7.out
   go_wp2_with fail
   refine (HAK.out w5b HV7.out).mono ?_
   rintro e w6 ⟨rfl, q6, rfl⟩
   have HV6 := Lib.hid (qac HV7.out q6)
   clear HAK HP4 HV4
   generalize w5b.drewN q6 = w6 at *
   have y9 := qal (pre := []) (mid := [.int .i64 0, .int .i32 0, .int .i64 0, .int .i64 0, .int .i32 0, .string ⟨#[]⟩, .slice none 0 0, .slice none 0 0, .int .i64 0, .int .i32 0, .int .i32 0, .bool false, .int .i64 0, .int .i64 0, .int .i64 0, .int .i32 0, .slice none 0 0, .slice none 0 0, .int .i32 0, .slice none 0 0, .int .i32 0, .int .i64 0, .int .i32 0, .int .i32 0, .int .i32 0, .string ⟨#[]⟩, .int .i64 0, .int .i64 0, .int .i64 0, .int .i64 0, .int .i32 0, .int .i32 0, .int .i32 0, .int .i64 0, .int .i32 0, .int .i32 0, .int .i64 0, .slice none 0 0, .slice none 0 0, .slice none 0 0, .int .i32 0, .int .i64 0, .int .i32 0, .slice none 0 0, .slice none 0 0]) (post := []) (HGP.out w6 HV6.out) (by rfl) rfl
   have HCS := Lib.hid (fun (V : World) => show Calls Tryz.prog 35 #[.agg rzPr, .agg rzPr] V (RetB V true) from qce qeU default default V (fun _ => True) (fun _ => True) (qcD _ _) (qcD _ _) qeO)
   have HP6 := Lib.hid (HPl.out w6 HV6.out)
   go_wp2_with (first
    | (refine qdd rfl rfl ?_)
    | (apply qau 63; exact rfl; exact rfl; exact rfl; exact y9; exact qbq; exact rfl; exact qaI)
    | fail)
   refine (HCS.out _).mono ?_
   rintro e w7 ⟨rfl, hb7⟩
   have HP7 := Lib.hid (HP6.out.later hb7)
   clear hb7 HCS HP6 y9
   go_wp2_with fail
   go_ret
   exact ⟨rfl, HP7.out⟩
  ·have HZ := Lib.hid (show qcQ st on = 0 from if_neg (by omega))
   have t3 : decide (on < st.acked.length) = false := decide_eq_false hv
   have y2 : w4.cell? ⟨br, 2, none⟩ = some (.slice (some ⟨y.gv, 0, none⟩) st.acked.length st.acked.length) := by rw [qaf HP4.out.r.box]; rfl
   rw [HZ.out] at HAK
   go_wp2_with fail
   go_quiet (fail)
   rename Nat => q1
   have HV5 := Lib.hid (qac HV4.out q1)
   clear x1 y2
   generalize w4.drewN q1 = w5 at *
   have x5 := HC1.out w5 HV5.out
   go_wp2_with fail
   refine (HAK.out w5 HV5.out).mono ?_
   rintro e w6 ⟨rfl, q6, rfl⟩
   have HV6 := Lib.hid (qac HV5.out q6)
   clear HAK HP4 HV4
   generalize w5.drewN q6 = w6 at *
   have y9 := qal (pre := []) (mid := [.int .i64 0, .int .i32 0, .int .i64 0, .int .i64 0, .int .i32 0, .string ⟨#[]⟩, .slice none 0 0, .slice none 0 0, .int .i64 0, .int .i32 0, .int .i32 0, .bool false, .int .i64 0, .int .i64 0, .int .i64 0, .int .i32 0, .slice none 0 0, .slice none 0 0, .int .i32 0, .slice none 0 0, .int .i32 0, .int .i64 0, .int .i32 0, .int .i32 0, .int .i32 0, .string ⟨#[]⟩, .int .i64 0, .int .i64 0, .int .i64 0, .int .i64 0, .int .i32 0, .int .i32 0, .int .i32 0, .int .i64 0, .int .i32 0, .int .i32 0, .int .i64 0, .slice none 0 0, .slice none 0 0, .slice none 0 0, .int .i32 0, .int .i64 0, .int .i32 0, .slice none 0 0, .slice none 0 0]) (post := []) (HGP.out w6 HV6.out) (by rfl) rfl
   have HCS := Lib.hid (fun (V : World) => show Calls Tryz.prog 35 #[.agg rzPr, .agg rzPr] V (RetB V true) from qce qeU default default V (fun _ => True) (fun _ => True) (qcD _ _) (qcD _ _) qeO)
   have HP6 := Lib.hid (HPl.out w6 HV6.out)
   go_wp2_with (first
    | (refine qdd rfl rfl ?_)
    | (apply qau 63; exact rfl; exact rfl; exact rfl; exact y9; exact qbq; exact rfl; exact qaI)
    | fail)
   refine (HCS.out _).mono ?_
   rintro e w7 ⟨rfl, hb7⟩
   have HP7 := Lib.hid (HP6.out.later hb7)
   clear hb7 HCS HP6 y9
   go_wp2_with fail
   go_ret
   exact ⟨rfl, HP7.out⟩
theorem qlz (w0 w : World) (bq br : Nat) (st : QuT) (x : QuX) (R : Nat → Prop) (y : RqX) (Q : Nat → Prop) (H : PlE w0 w bq br st st x R y Q) (k oz : Int) (n : Nat) (h : PrH) (hn : n < st.L.length) :
  Calls Tryz.prog 78 #[.pointer (some ⟨bq, 0, none⟩), .pointer (some ⟨br, 0, none⟩), .agg (encQo (k, ↑n, oz) h).toArray] w (AskP w0 bq br st x R y Q) := by
 have HH := Lib.hid H
 have HG := Lib.hid (qab w (.cells (encQo (k, ↑n, oz) h).toArray 77))
 have HB1 := Lib.hid (show Below w.heap.size w (w.alloc (.cells (encQo (k, ↑n, oz) h).toArray 77)) from (Below.refl _ w).alloc (Nat.le_refl _) _)
 have HZ1 := Lib.hid (sz1 w (.cells (encQo (k, ↑n, oz) h).toArray 77))
 clear H
 go_enter Tryz.func78, Tryz.ntmps78
 go_upto_region 1 with fail
 generalize w.alloc (.cells (encQo (k, ↑n, oz) h).toArray 77) = W at *
 have HC1 := Lib.hid (fun (V : World) (hV : Below W.heap.size W V) => show V.cell? ⟨w.heap.size, 1, none⟩ = some (.int .i64 ↑n) from by rw [qaf ((hV.block _ (by have := HZ1.out; omega)).trans HG.out)]; rfl)
 have HC2 := Lib.hid (fun (V : World) (hV : Below W.heap.size W V) => show V.cell? ⟨w.heap.size, 2, none⟩ = some (.int .i64 oz) from by rw [qaf ((hV.block _ (by have := HZ1.out; omega)).trans HG.out)]; rfl)
 have HPl := Lib.hid (fun (V : World) (hV : Below W.heap.size W V) => HH.out.later (HB1.out.trans (hV.mono HB1.out.size)))
 have x1 := HC1.out W (Below.refl _ _)
 have HLP := Lib.hid hn
 clear hn
 have HGN := Lib.hid (qno bq x R st n W (HPl.out W (Below.refl _ _)).q.q HLP.out (HH.out.ia.sm n HLP.out) HH.out.q.cap)
 go_wp2_with fail
 refine HGN.out.mono ?_
 rintro e w1 ⟨⟨ha, rfl, hat, hnf⟩, hb⟩
 have HAT := Lib.hid hat; have HNF := Lib.hid hnf
 have HZR := Lib.hid (qab w1 (.cells (qah ha).toArray 63))
 have HB5 := Lib.hid (show Below w1.heap.size w1 (w1.alloc (.cells (qah ha).toArray 63)) from (Below.refl _ w1).alloc (Nat.le_refl _) _)
 have HV1 := Lib.hid (show Below W.heap.size W (w1.alloc (.cells (qah ha).toArray 63)) from hb.trans (HB5.out.mono hb.size))
 have HZ2 := Lib.hid (sz1 w1 (.cells (qah ha).toArray 63))
 have HAW := Lib.hid ((HPl.out W (Below.refl _ _)).new (P := fun b => W.heap.size ≤ b ∧ b < w1.heap.size) (fun g h => h.1))
 clear hb x1 HGN hat hnf
 go_upto_region 2 with (first
  | (apply qai 63 63; exact rfl; exact rfl; exact rfl; (first | (with_reducible rfl) | (exact sz1 _ _) | (exact sz2 _ _ _) | (exact sz3 _ _ _ _)); exact rfl; exact qaI; exact rfl; (first | exact qbo _ | simp [Value.oneCell']))
  | fail)
 change Code.wp _ _ _ _ (w1.alloc (.cells (qah ha).toArray 63))
 generalize w1.alloc (.cells (qah ha).toArray 63) = V1 at *
 replace HC1 := Lib.hid (fun (V : World) (hV : Below V1.heap.size V1 V) => HC1.out V (HV1.out.trans (hV.mono HV1.out.size)))
 replace HC2 := Lib.hid (fun (V : World) (hV : Below V1.heap.size V1 V) => HC2.out V (HV1.out.trans (hV.mono HV1.out.size)))
 replace HPl := Lib.hid (fun (V : World) (hV : Below V1.heap.size V1 V) => HPl.out V (HV1.out.trans (hV.mono HV1.out.size)))
 have HGP := Lib.hid (fun (V : World) (hV : Below V1.heap.size V1 V) => show V.heap[w1.heap.size]? = some (.cells (qah ha).toArray 63 (0, 0)) from (hV.block _ (by have := HZ2.out; omega)).trans HZR.out)
 clear HV1 HZR HZ2 HG HB1 HZ1 HH
 go_cut [9] from 23 to 35 (fun v wx => v = .bool true ∧ ∃ q, wx = V1.drewN q)
 case first =>
  have x1 := HC1.out V1 (Below.refl _ _)
  have x3 : V1.cell? ⟨br, 3, none⟩ = some (.slice y.A st.L.length y.c) := by rw [qaf (HPl.out V1 (Below.refl _ _)).r.box]; rfl
  have t1 : decide ((0 : Int) ≤ (n : Int)) = true := decide_eq_true (by omega)
  have t2 : decide (n < st.L.length) = true := decide_eq_true HLP.out
  go_wp2_with fail
  go_quiet (fail)
  go_wp2_with fail
  go_meet
  exact ⟨rfl, _, rfl⟩
 case rest =>
 obtain ⟨rfl, q1, rfl⟩ := hcut
 have HV2 := Lib.hid (qac (Below.refl V1.heap.size V1) q1)
 generalize V1.drewN q1 = V2 at *
 have x2 := HC2.out V2 HV2.out
 have HPF := Lib.hid (HPl.out V2 HV2.out)
 have HF1 := Lib.hid (qfd bq x R st oz V2 HPF.out.q.q HPF.out.ia.rise HPF.out.ia.l4 HPF.out.q.cap)
 go_wp2_with fail
 refine HF1.out.mono ?_
 rintro e w3 ⟨rfl, hb⟩
 have HV3 := Lib.hid (HV2.out.trans (hb.mono HV2.out.size))
 clear x2 hb HPF HF1
 have x2 := HC2.out w3 HV3.out
 have HPF := Lib.hid (HPl.out w3 HV3.out)
 have HF1 := Lib.hid (qeZ w3 w0.heap.size br y Q st oz HPF.out.r HPF.out.ib.l4)
 go_wp2_with fail
 refine HF1.out.mono ?_
 rintro e w4 ⟨rfl, hb⟩
 have HV4 := Lib.hid (HV3.out.trans (hb.mono HV3.out.size))
 clear x2 hb HPF HF1
 have HP4 := Lib.hid (HPl.out w4 HV4.out)
 generalize fndN st oz = fn at *
 generalize fndB st oz = fb at *
 have x1 := HC1.out w4 HV4.out
 have t1 : decide ((0 : Int) ≤ (n : Int)) = true := decide_eq_true (by omega)
 have HAK := Lib.hid (fun (V : World) (hV : Below V1.heap.size V1 V) => qeu bq x R st n V (HPl.out V hV).q.q)
 by_cases hv : (n : Int) < st.acked.length
 ·have HZ := Lib.hid (show qcQ st n = st.acked[n]! from if_pos (by omega))
  have hn : n < st.acked.length := by omega
  have t3 : decide (n < st.acked.length) = true := decide_eq_true hn
  have y2 : w4.cell? ⟨br, 2, none⟩ = some (.slice (some ⟨y.gv, 0, none⟩) st.acked.length st.acked.length) := by rw [qaf HP4.out.r.box]; rfl
  have y3 := HP4.out.r.vc hn
  have hni : (n : Int) < (st.acked.length : Int) := by omega
  have hn0 : (0 : Int) ≤ (n : Int) := by omega
  rw [HZ.out] at HAK
  have HNV := Lib.hid hn
  obtain ⟨zz, hzz⟩ : ∃ zz, st.acked[n]! = zz := ⟨_, rfl⟩
  have HZZ := Lib.hid hzz
  rw [hzz] at HAK y3
  clear hv hzz HZ
  go_wp2_with fail
  go_quiet (fail)
  rename Nat => q1
  have HV5 := Lib.hid (qac HV4.out q1)
  go_upto_region 7 with fail
  clear x1 y2 y3
  generalize w4.drewN q1 = w5 at *
  have x5 := HC1.out w5 HV5.out
  have y2 : w5.cell? ⟨br, 2, none⟩ = some (.slice (some ⟨y.gv, 0, none⟩) st.acked.length st.acked.length) := by rw [qaf (HPl.out w5 HV5.out).r.box]; rfl
  have y3 : w5.cell? ⟨y.gv, n, none⟩ = some (.int .i64 zz) := by rw [(HPl.out w5 HV5.out).r.vc HNV.out, HZZ.out]
  go_quiet (fail)
  rename Nat => q2
  have HV7 := Lib.hid (qac HV5.out q2)
  clear x5 y2 y3
  generalize w5.drewN q2 = w5b at *
  have x5 := HC1.out w5b HV7.out
  go_wp2_with fail
  refine (HAK.out w5b HV7.out).mono ?_
  rintro e w6 ⟨rfl, q6, rfl⟩
  have HV6 := Lib.hid (qac HV7.out q6)
  clear HAK HP4 HV4
  generalize w5b.drewN q6 = w6 at *
  (try clear t1); (try clear t3); (try clear hn); (try clear hv); (try clear x5); (try clear hvi); (try clear hv0)
  have HP6 := Lib.hid (HPl.out w6 HV6.out)
  obtain ⟨b2, o2, e0, -, hc2⟩ := HP6.out.r.row.2.2 (show 0 < st.L.length from Nat.lt_of_le_of_lt (Nat.zero_le _) HLP.out)
  have e2 : y.A = some ⟨b2, o2, none⟩ := e0
  have HSP := Lib.hid (fun (V : World) (hV : Below w6.heap.size w6 V) => (show V.rangeAt w1.heap.size 0 (qah ha) ∧ V.cell? ⟨br, 3, none⟩ = some (.slice (some ⟨b2, o2, none⟩) st.L.length y.c) ∧ V.cell? ⟨w.heap.size, 1, none⟩ = some (.int .i64 ↑n) ∧ V.rangeAt b2 (o2 + n * 45) (qah y.Hs[n]!) from
   ⟨qal (pre := []) (mid := qah ha) (post := []) (HGP.out V (HV6.out.trans (hV.mono HV6.out.size))) (by simp) rfl, by rw [← e2, qaf (HP6.out.later hV).r.box]; rfl, HC1.out V (HV6.out.trans (hV.mono HV6.out.size)), qbf (fun i u hu => hc2 n HLP.out i u hu) hV⟩))
  have HCS := Lib.hid (fun (V : World) (hV : Below w6.heap.size w6 V) => qce st.L[n]! ha y.Hs[n]! V _ _ (HAT.out.fr (R' := (W.heap.size ≤ ·)) (Fr.of_below (own := []) (HB5.out.trans ((HV6.out.trans (hV.mono HV6.out.size)).mono HB5.out.size))) (fun b _ h => ⟨by simp, h⟩)) ((HP6.out.later hV).r.els n HLP.out) (HP6.out.ia.sm n HLP.out))
  have hni : (n : Int) < (st.L.length : Int) := by have := HLP.out; omega
  have hn0 : (0 : Int) ≤ (n : Int) := by omega
  clear hc2 e0 e2
  generalize y.Hs[n]! = h2 at *
  go_upto_region 12 with fail
  refine qaP (S := fun V => V.rangeAt w1.heap.size 0 (qah ha) ∧ V.cell? ⟨br, 3, none⟩ = some (.slice (some ⟨b2, o2, none⟩) st.L.length y.c) ∧ V.cell? ⟨w.heap.size, 1, none⟩ = some (.int .i64 ↑n) ∧ V.rangeAt b2 (o2 + n * 45) (qah h2)) 11 (by kernel_rfl) (HSP.out _ (qaj w6)) (fun hHeld => ?_)
  refine qad (i := 0) (v := .agg (qah ha).toArray) rfl (by kernel_rfl) (fun _ _ _ h => h) (yieldsIf_load_mid (by rfl) 63 _ rfl w1.heap.size 0 rfl (qah ha) _ (fun _ h => h.1) qbq rfl qaI) (by assumption) ?_
  (try simp only [pT])
  refine qad (i := 1) (v := .pointer (some ⟨br, 0, none⟩)) rfl (by kernel_rfl) (fun _ _ _ h => h) (Or.inl ⟨by rfl, by intro w hSw; clear hSw; go_simp⟩) (by assumption) ?_
  (try simp only [pT])
  refine qad (i := 2) (v := .pointer (some ⟨br, 0, none⟩)) rfl (by kernel_rfl) (fun _ _ _ h => h) (Or.inl ⟨by rfl, by intro w hSw; clear hSw; go_simp⟩) (by assumption) ?_
  (try simp only [pT])
  refine qad (i := 3) (v := .pointer (some ⟨br, 3, none⟩)) rfl (by kernel_rfl) (fun _ _ _ h => h) (Or.inl ⟨by rfl, by intro w hSw; clear hSw; go_simp⟩) (by assumption) ?_
  (try simp only [pT])
  refine qad (i := 4) (v := .slice (some ⟨b2, o2, none⟩) st.L.length y.c) rfl (by kernel_rfl) (fun _ _ _ h => h) (Or.inl ⟨by rfl, by intro w hSw; have hSx := hSw.2.1; clear hSw; go_simp⟩) (by assumption) ?_
  (try simp only [pT])
  refine qad (i := 5) (v := .pointer (some ⟨w.heap.size, 1, none⟩)) rfl (by kernel_rfl) (fun _ _ _ h => h) (Or.inl ⟨by rfl, by intro w hSw; clear hSw; go_simp⟩) (by assumption) ?_
  (try simp only [pT])
  refine qad (i := 6) (v := .int .i64 ↑n) rfl (by kernel_rfl) (fun _ _ _ h => h) (Or.inl ⟨by rfl, by intro w hSw; have hSx := hSw.2.2.1; clear hSw; go_simp⟩) (by assumption) ?_
  (try simp only [pT])
  refine qad (i := 7) (v := .pointer (some ⟨b2, o2 + n * 45, none⟩)) rfl (by kernel_rfl) (fun _ _ _ h => h) (Or.inl ⟨by rfl, by intro w hSw; clear hSw; go_simp⟩) (by assumption) ?_
  (try simp only [pT])
  refine qad (i := 8) (v := .agg (qah h2).toArray) rfl (by kernel_rfl) (fun _ _ _ h => h) (yieldsIf_load_mid (by rfl) 94 _ rfl b2 (o2 + n * 45) rfl (qah h2) _ (fun _ h => h.2.2.2) qdn rfl qcu) (by assumption) ?_
  (try simp only [pT])
  refine qaq (i := 9) rfl (by kernel_rfl) (fun K hK => ?_)
  go_simp
  refine (HCS.out _ (qaj w6)).mono ?_
  rintro e w8 ⟨rfl, hb8⟩
  dsimp only
  have HB8 := Lib.hid ((qaj w6).trans (hb8.mono (qaj w6).size))
  replace hHeld := HSP.out _ HB8.out
  refine hK.out _ _ hHeld ?_
  clear hK K hb8
  (try simp only [pT])
  refine qad (i := 10) (v := .bool true) rfl (by kernel_rfl) (fun _ _ _ h => h) (Or.inl ⟨by rfl, by intro w hSw; clear hSw; go_simp⟩) (by assumption) ?_
  (try simp only [pT])
  refine qaG (n := 11) (by kernel_rfl) ?_
  simp only [List.drop_succ_cons, List.drop_zero, List.drop_nil]
  have HB68 := Lib.hid (HV6.out.trans (HB8.out.mono HV6.out.size))
  have HB48 := Lib.hid (HB5.out.trans (HB68.out.mono HB5.out.size))
  have HSS := Lib.hid (show SpS w8 w1.heap.size (fun b => W.heap.size ≤ b ∧ b < w1.heap.size) ha w8 from
   ⟨HGP.out w8 HB68.out, fun h => by have := h.2; omega, HNF.out.fr (Fr.of_below (own := []) HB48.out) (fun b hlt h => ⟨by simp, h, hlt⟩), ⟨[], Fr.refl _ _, fun g hg => by cases hg⟩⟩)
  have HSC := Lib.hid (qeF w8 w1.heap.size _ ha HSS.out (HAT.out.fr (R' := (W.heap.size ≤ ·)) (Fr.of_below (own := []) HB48.out) (fun b _ h => ⟨by simp, h⟩)) (HP6.out.ia.sm n HLP.out))
  have HP8 := Lib.hid (HP6.out.later HB8.out)
  clear hHeld HSP HCS HSS HB48 HB68 HP6 HPl
  go_wp2_with fail
  refine HSC.out.mono ?_
  rintro e w9 ⟨rfl, ho⟩
  have HPF := Lib.hid (HP8.out.only HAW.out ho)
  clear ho HSC HP8
  go_wp2_with fail
  go_ret
  exact ⟨rfl, HPF.out⟩
 ·have HZ := Lib.hid (show qcQ st n = 0 from if_neg (by omega))
  have t3 : decide (n < st.acked.length) = false := decide_eq_false (by omega)
  have y2 : w4.cell? ⟨br, 2, none⟩ = some (.slice (some ⟨y.gv, 0, none⟩) st.acked.length st.acked.length) := by rw [qaf HP4.out.r.box]; rfl
  rw [HZ.out] at HAK
  go_wp2_with fail
  go_quiet (fail)
  rename Nat => q1
  have HV5 := Lib.hid (qac HV4.out q1)
  clear x1 y2
  generalize w4.drewN q1 = w5 at *
  have x5 := HC1.out w5 HV5.out
  go_wp2_with fail
  refine (HAK.out w5 HV5.out).mono ?_
  rintro e w6 ⟨rfl, q6, rfl⟩
  have HV6 := Lib.hid (qac HV5.out q6)
  clear HAK HP4 HV4
  generalize w5.drewN q6 = w6 at *
  (try clear t1); (try clear t3); (try clear hn); (try clear hv); (try clear x5); (try clear hvi); (try clear hv0)
  have HP6 := Lib.hid (HPl.out w6 HV6.out)
  obtain ⟨b2, o2, e0, -, hc2⟩ := HP6.out.r.row.2.2 (show 0 < st.L.length from Nat.lt_of_le_of_lt (Nat.zero_le _) HLP.out)
  have e2 : y.A = some ⟨b2, o2, none⟩ := e0
  have HSP := Lib.hid (fun (V : World) (hV : Below w6.heap.size w6 V) => (show V.rangeAt w1.heap.size 0 (qah ha) ∧ V.cell? ⟨br, 3, none⟩ = some (.slice (some ⟨b2, o2, none⟩) st.L.length y.c) ∧ V.cell? ⟨w.heap.size, 1, none⟩ = some (.int .i64 ↑n) ∧ V.rangeAt b2 (o2 + n * 45) (qah y.Hs[n]!) from
   ⟨qal (pre := []) (mid := qah ha) (post := []) (HGP.out V (HV6.out.trans (hV.mono HV6.out.size))) (by simp) rfl, by rw [← e2, qaf (HP6.out.later hV).r.box]; rfl, HC1.out V (HV6.out.trans (hV.mono HV6.out.size)), qbf (fun i u hu => hc2 n HLP.out i u hu) hV⟩))
  have HCS := Lib.hid (fun (V : World) (hV : Below w6.heap.size w6 V) => qce st.L[n]! ha y.Hs[n]! V _ _ (HAT.out.fr (R' := (W.heap.size ≤ ·)) (Fr.of_below (own := []) (HB5.out.trans ((HV6.out.trans (hV.mono HV6.out.size)).mono HB5.out.size))) (fun b _ h => ⟨by simp, h⟩)) ((HP6.out.later hV).r.els n HLP.out) (HP6.out.ia.sm n HLP.out))
  have hni : (n : Int) < (st.L.length : Int) := by have := HLP.out; omega
  have hn0 : (0 : Int) ≤ (n : Int) := by omega
  clear hc2 e0 e2
  generalize y.Hs[n]! = h2 at *
  go_upto_region 12 with fail
  refine qaP (S := fun V => V.rangeAt w1.heap.size 0 (qah ha) ∧ V.cell? ⟨br, 3, none⟩ = some (.slice (some ⟨b2, o2, none⟩) st.L.length y.c) ∧ V.cell? ⟨w.heap.size, 1, none⟩ = some (.int .i64 ↑n) ∧ V.rangeAt b2 (o2 + n * 45) (qah h2)) 11 (by kernel_rfl) (HSP.out _ (qaj w6)) (fun hHeld => ?_)
  refine qad (i := 0) (v := .agg (qah ha).toArray) rfl (by kernel_rfl) (fun _ _ _ h => h) (yieldsIf_load_mid (by rfl) 63 _ rfl w1.heap.size 0 rfl (qah ha) _ (fun _ h => h.1) qbq rfl qaI) (by assumption) ?_
  (try simp only [pT])
  refine qad (i := 1) (v := .pointer (some ⟨br, 0, none⟩)) rfl (by kernel_rfl) (fun _ _ _ h => h) (Or.inl ⟨by rfl, by intro w hSw; clear hSw; go_simp⟩) (by assumption) ?_
  (try simp only [pT])
  refine qad (i := 2) (v := .pointer (some ⟨br, 0, none⟩)) rfl (by kernel_rfl) (fun _ _ _ h => h) (Or.inl ⟨by rfl, by intro w hSw; clear hSw; go_simp⟩) (by assumption) ?_
  (try simp only [pT])
  refine qad (i := 3) (v := .pointer (some ⟨br, 3, none⟩)) rfl (by kernel_rfl) (fun _ _ _ h => h) (Or.inl ⟨by rfl, by intro w hSw; clear hSw; go_simp⟩) (by assumption) ?_
  (try simp only [pT])
  refine qad (i := 4) (v := .slice (some ⟨b2, o2, none⟩) st.L.length y.c) rfl (by kernel_rfl) (fun _ _ _ h => h) (Or.inl ⟨by rfl, by intro w hSw; have hSx := hSw.2.1; clear hSw; go_simp⟩) (by assumption) ?_
  (try simp only [pT])
  refine qad (i := 5) (v := .pointer (some ⟨w.heap.size, 1, none⟩)) rfl (by kernel_rfl) (fun _ _ _ h => h) (Or.inl ⟨by rfl, by intro w hSw; clear hSw; go_simp⟩) (by assumption) ?_
  (try simp only [pT])
  refine qad (i := 6) (v := .int .i64 ↑n) rfl (by kernel_rfl) (fun _ _ _ h => h) (Or.inl ⟨by rfl, by intro w hSw; have hSx := hSw.2.2.1; clear hSw; go_simp⟩) (by assumption) ?_
  (try simp only [pT])
  refine qad (i := 7) (v := .pointer (some ⟨b2, o2 + n * 45, none⟩)) rfl (by kernel_rfl) (fun _ _ _ h => h) (Or.inl ⟨by rfl, by intro w hSw; clear hSw; go_simp⟩) (by assumption) ?_
  (try simp only [pT])
  refine qad (i := 8) (v := .agg (qah h2).toArray) rfl (by kernel_rfl) (fun _ _ _ h => h) (yieldsIf_load_mid (by rfl) 94 _ rfl b2 (o2 + n * 45) rfl (qah h2) _ (fun _ h => h.2.2.2) qdn rfl qcu) (by assumption) ?_
  (try simp only [pT])
  refine qaq (i := 9) rfl (by kernel_rfl) (fun K hK => ?_)
  go_simp
  refine (HCS.out _ (qaj w6)).mono ?_
  rintro e w8 ⟨rfl, hb8⟩
  dsimp only
  have HB8 := Lib.hid ((qaj w6).trans (hb8.mono (qaj w6).size))
  replace hHeld := HSP.out _ HB8.out
  refine hK.out _ _ hHeld ?_
  clear hK K hb8
  (try simp only [pT])
  refine qad (i := 10) (v := .bool true) rfl (by kernel_rfl) (fun _ _ _ h => h) (Or.inl ⟨by rfl, by intro w hSw; clear hSw; go_simp⟩) (by assumption) ?_
  (try simp only [pT])
  refine qaG (n := 11) (by kernel_rfl) ?_
  simp only [List.drop_succ_cons, List.drop_zero, List.drop_nil]
  have HB68 := Lib.hid (HV6.out.trans (HB8.out.mono HV6.out.size))
  have HB48 := Lib.hid (HB5.out.trans (HB68.out.mono HB5.out.size))
  have HSS := Lib.hid (show SpS w8 w1.heap.size (fun b => W.heap.size ≤ b ∧ b < w1.heap.size) ha w8 from
   ⟨HGP.out w8 HB68.out, fun h => by have := h.2; omega, HNF.out.fr (Fr.of_below (own := []) HB48.out) (fun b hlt h => ⟨by simp, h, hlt⟩), ⟨[], Fr.refl _ _, fun g hg => by cases hg⟩⟩)
  have HSC := Lib.hid (qeF w8 w1.heap.size _ ha HSS.out (HAT.out.fr (R' := (W.heap.size ≤ ·)) (Fr.of_below (own := []) HB48.out) (fun b _ h => ⟨by simp, h⟩)) (HP6.out.ia.sm n HLP.out))
  have HP8 := Lib.hid (HP6.out.later HB8.out)
  clear hHeld HSP HCS HSS HB48 HB68 HP6 HPl
  go_wp2_with fail
  refine HSC.out.mono ?_
  rintro e w9 ⟨rfl, ho⟩
  have HPF := Lib.hid (HP8.out.only HAW.out ho)
  clear ho HSC HP8
  go_wp2_with fail
  go_ret
  exact ⟨rfl, HPF.out⟩
theorem qkY (w0 w : World) (bq br : Nat) (st : QuT) (x : QuX) (R : Nat → Prop) (y : RqX) (Q : Nat → Prop) (H : PlE w0 w bq br st st x R y Q) (k on oz : Int) (h : PrH) :
  Calls Tryz.prog 78 #[.pointer (some ⟨bq, 0, none⟩), .pointer (some ⟨br, 0, none⟩), .agg (encQo (k, on, oz) h).toArray] w (AskP w0 bq br st x R y Q) := by
 by_cases h0 : on < 0 ∨ (st.L.length : Int) ≤ on
 ·exact qmF w0 w bq br st x R y Q H k on oz h h0
 ·obtain ⟨n, rfl⟩ : ∃ n : Nat, on = (n : Int) := ⟨on.toNat, by omega⟩
  exact qlz w0 w bq br st x R y Q H k oz n h (by omega)
end Go.Proofs.YtbpmmmnphpkdjaaGreatDoor

/- The walk of slices.Equal at entries. Condition: lengths at most 2^48. -/
import Derived.Test.YtbpmmmnphpkdjaaGreatDoorWAclF
import Derived.Test.YtbpmmmnphpkdjaaGreatDoorWQuoG
import Derived.Test.YtbpmmmnphpkdjaaGreatDoorWRplI
import Derived.Test.YtbpmmmnphpkdjaaGreatDoorWRgtP
namespace Go.Proofs.YtbpmmmnphpkdjaaGreatDoor
set_option linter.unusedSimpArgs false
set_option maxRecDepth 100000
set_option maxHeartbeats 20000000
open Go.RowKit
theorem qiN (A A' : Option Addr) (n m c c' : Nat) (xs ys : List AclV) (w : World) (B : Nat) (hx : Sl w B qao 3 A n xs) (hy : Sl w B qao 3 A' m ys) (hn : n ≤ 281474976710656) (hm : m ≤ 281474976710656) :
  Calls Tryz.prog 210 #[.slice A n c, .slice A' m c'] w (QuietB w (decide (xs = ys))) := by
 by_cases hnm : n = m
 ·subst hnm
  have hlen : xs.length = ys.length := hx.1.trans hy.1.symm
  have HL := Lib.hid hlen; have HXL := Lib.hid hx.1; clear hlen
  have hneq := qcJ
  go_enter Tryz.func210, Tryz.ntmps210
  go_wp2
  go_loopw [5, 13] (fun _ i wr => ∃ (k q : Nat), i = .int .i64 ↑k ∧ k ≤ n ∧ (∀ j, j < k → xs[j]! = ys[j]!) ∧ wr = w.drewN q) (fun _ i _ => n - (intOf i).toNat)
  case atStart => exact ⟨0, 0, rfl, by omega, fun j hj => absurd hj (by omega), rfl⟩
  case round =>
   obtain ⟨k, q, rfl, hk, hall, rfl⟩ := hrel
   have HA := Lib.hid hall; clear hall
   by_cases hlt : k < n
   ·obtain ⟨b, off, rfl, _, x0, x1, x2⟩ := SlAcl.at_ hx hlt
    obtain ⟨b', off', rfl, _, y0, y1, y2⟩ := SlAcl.at_ hy hlt
    have hyl : k < ys.length := by have := hy.1; omega
    by_cases he : xs[k]! = ys[k]!
    ·have HA1 := Lib.hid (show ∀ j, j < k + 1 → xs[j]! = ys[j]! from fun j hj => by rcases Nat.lt_succ_iff_lt_or_eq.1 hj with h | rfl; exact HA.out j h; exact he)
     rw [he] at x0 x1 x2
     clear he
     generalize ys[k]! = y at *
     obtain ⟨p, s, t⟩ := y
     have hq := fun w : World => (qcJ w s t s t p p).trans (by simp : _ = Result.ok (.bool false) w)
     clear hneq
     go_wp2
     go_quiet (fail)
     go_wp2
     go_roundw
     case rel => exact ⟨k + 1, q + nq, by go_num, by omega, HA1.out, rfl⟩
     case measure => simp [intOf]; omega
    ·have HE := Lib.hid (show decide (xs = ys) = false from decide_eq_false fun e => he (by rw [e]))
     have hd : (!decide (xs[k]! = ys[k]!)) = true := by rw [decide_eq_false he]; rfl
     have HW := Lib.hid hd
     clear he hd
     generalize xs[k]! = x at *
     generalize ys[k]! = y at *
     obtain ⟨p, s, t⟩ := x
     obtain ⟨p', s', t'⟩ := y
     have hq := fun w : World => (qcJ w s t s' t' p p').trans (by rw [HW.out] : _ = Result.ok (.bool true) w)
     clear hneq
     go_wp2
     go_quiet (fail)
     go_wp2
     go_ret
     exact QuietB.mk ⟨q + nq, World.drewN_drewN ..⟩ HE.out.symm
   ·have HE := Lib.hid (show decide (xs = ys) = true from decide_eq_true (qbQ HL.out fun j hj => HA.out j (by have := HXL.out; omega)))
    go_wp2
    go_ret
    exact QuietB.mk ⟨q, rfl⟩ HE.out.symm
 ·have HE := Lib.hid (show decide (xs = ys) = false from decide_eq_false fun e => hnm (by rw [← hx.1, ← hy.1, e]))
  have hd : ((n : Int) != (m : Int)) = true := by simp; omega
  clear hnm
  go_enter Tryz.func210, Tryz.ntmps210
  go_wp2
  go_ret
  exact QuietB.mk ⟨0, rfl⟩ HE.out.symm
theorem qgN (A A' : Option Addr) (n m c c' : Nat) (xs ys : List IdV) (w : World) (B : Nat) (hx : Sl w B qaz 2 A n xs) (hy : Sl w B qaz 2 A' m ys) (hn : n ≤ 281474976710656) (hm : m ≤ 281474976710656) :
  Calls Tryz.prog 211 #[.slice A n c, .slice A' m c'] w (QuietB w (decide (xs = ys))) := by
 by_cases hnm : n = m
 ·subst hnm
  have hlen : xs.length = ys.length := hx.1.trans hy.1.symm
  have HL := Lib.hid hlen; have HXL := Lib.hid hx.1; clear hlen
  have hneq := qfC
  go_enter Tryz.func211, Tryz.ntmps211
  go_wp2
  go_loopw [5, 13] (fun _ i wr => ∃ (k q : Nat), i = .int .i64 ↑k ∧ k ≤ n ∧ (∀ j, j < k → xs[j]! = ys[j]!) ∧ wr = w.drewN q) (fun _ i _ => n - (intOf i).toNat)
  case atStart => exact ⟨0, 0, rfl, by omega, fun j hj => absurd hj (by omega), rfl⟩
  case round =>
   obtain ⟨k, q, rfl, hk, hall, rfl⟩ := hrel
   have HA := Lib.hid hall; clear hall
   by_cases hlt : k < n
   ·obtain ⟨b, off, rfl, _, x0, x1⟩ := SlId.at_ hx hlt
    obtain ⟨b', off', rfl, _, y0, y1⟩ := SlId.at_ hy hlt
    have hyl : k < ys.length := by have := hy.1; omega
    by_cases he : xs[k]! = ys[k]!
    ·have HA1 := Lib.hid (show ∀ j, j < k + 1 → xs[j]! = ys[j]! from fun j hj => by rcases Nat.lt_succ_iff_lt_or_eq.1 hj with h | rfl; exact HA.out j h; exact he)
     rw [he] at x0 x1
     clear he
     generalize ys[k]! = y at *
     obtain ⟨s, t⟩ := y
     have hq := fun w : World => (qfC w s t s t).trans (by simp : _ = Result.ok (.bool false) w)
     clear hneq
     go_wp2
     go_quiet (fail)
     go_wp2
     go_roundw
     case rel => exact ⟨k + 1, q + nq, by go_num, by omega, HA1.out, rfl⟩
     case measure => simp [intOf]; omega
    ·have HE := Lib.hid (show decide (xs = ys) = false from decide_eq_false fun e => he (by rw [e]))
     have hd : (!decide (xs[k]! = ys[k]!)) = true := by rw [decide_eq_false he]; rfl
     have HW := Lib.hid hd
     clear he hd
     generalize xs[k]! = x at *
     generalize ys[k]! = y at *
     obtain ⟨s, t⟩ := x
     obtain ⟨s', t'⟩ := y
     have hq := fun w : World => (qfC w s t s' t').trans (by rw [HW.out] : _ = Result.ok (.bool true) w)
     clear hneq
     go_wp2
     go_quiet (fail)
     go_wp2
     go_ret
     exact QuietB.mk ⟨q + nq, World.drewN_drewN ..⟩ HE.out.symm
   ·have HE := Lib.hid (show decide (xs = ys) = true from decide_eq_true (qbQ HL.out fun j hj => HA.out j (by have := HXL.out; omega)))
    go_wp2
    go_ret
    exact QuietB.mk ⟨q, rfl⟩ HE.out.symm
 ·have HE := Lib.hid (show decide (xs = ys) = false from decide_eq_false fun e => hnm (by rw [← hx.1, ← hy.1, e]))
  have hd : ((n : Int) != (m : Int)) = true := by simp; omega
  clear hnm
  go_enter Tryz.func211, Tryz.ntmps211
  go_wp2
  go_ret
  exact QuietB.mk ⟨0, rfl⟩ HE.out.symm
open Go.RowKit Go.MapKept Go.Maps
/-- the loop's state: the first k parts are copied -/
structure CtR (w : World) (h' : TxH) (v : TxF) (subs : List TxT) (Z : Array Value) (k : Nat) (A : Option Addr) (c : Nat) (wr : World) : Prop where
 s : CnSt w wr (qar h').toArray Z 52
 l : locTx wr (fun b => NfR wr (w.heap.size + 2) b ∧ offRow A b) h' v
 r : ∃ Hs : List TxH, wr.ownsRow (w.heap.size + 2) 52 16 (.slice A k c) k (Hs.flatMap qar) ∧ Hs.length = k ∧ ∀ j, j < k → TxAt wr (fun b => NfR wr (w.heap.size + 2) b ∧ offRow A b) Hs[j]! subs[j]!
theorem CtR.step {w : World} {h' : TxH} {v : TxF} {subs : List TxT} {Z : Array Value} {k : Nat} {A : Option Addr} {c : Nat} {wr w6 w7 w8 : World} (H : CtR w h' v subs Z k A c wr) (hb : Below wr.heap.size wr w6) {h6 : TxH} (ht : TxAt w6 (NfR w6 wr.heap.size) h6 subs[k]!) (hb7 : Below w6.heap.size w6 w7) {A' : Option Addr} {c' : Nat} {Hs : List TxH}
  (hr : wr.ownsRow (w.heap.size + 2) 52 16 (.slice A k c) k (Hs.flatMap qar)) (hHl : Hs.length = k) (hHt : ∀ j, j < k → TxAt wr (fun b => NfR wr (w.heap.size + 2) b ∧ offRow A b) Hs[j]! subs[j]!)
  (hown : w8.ownsRow (w.heap.size + 2) 52 16 (.slice A' (k + 1) c') (k + 1) ((Hs ++ [h6]).flatMap qar)) (hon : OnT A A' w7 w8) : CtR w h' v subs Z (k + 1) A' c' w8 := by
 have hb67 : Below wr.heap.size wr w7 := hb.trans (hb7.mono hb.size)
 have hs7 := H.s.call hb67
 obtain ⟨own, hf, hk, hoA⟩ := hon.keep
 have hA : ∀ g ∈ own, w.heap.size + 2 ≤ g := fun g hg => by
  have e := hoA g hg
  rcases qdA hr with ⟨e2, _⟩ | ⟨g2, cur, e2, h2, _⟩
  ·rw [e2] at e; cases e
  ·rw [e2] at e; injection e with e; injection e with e3 _; rw [← e3]; exact h2
 have hAlt : ∀ b, wr.heap.size ≤ b → offRow A b := fun b hb o e => by
  rcases qdA hr with ⟨e2, _⟩ | ⟨g2, cur, e2, _, h3, _⟩
  ·rw [e2] at e; cases e
  ·rw [e2] at e; injection e with e; injection e with e3 _
   have := (Array.getElem?_eq_some_iff.1 h3).1; omega
 have mv : ∀ b, b < wr.heap.size → (NfR wr (w.heap.size + 2) b ∧ offRow A b) → b ∉ own ∧ NfR w8 (w.heap.size + 2) b ∧ offRow A' b := fun b hlt h => by
  have h1 := hk b (Nat.lt_of_lt_of_le hlt hb67.size) h.2
  exact ⟨h1.1, (h.1.below hb67).fr hf h1.1 (Nat.le_refl _), h1.2⟩
 have hF : Fr own wr w8 := ⟨hf.os.trans hb67.os, hf.tape.trans hb67.tape, hf.output.trans hb67.output, Nat.le_trans hb67.size hf.size, fun g hg hn => (hf.block g (Nat.lt_of_lt_of_le hg hb67.size) hn).trans (hb67.block g hg)⟩
 refine ⟨hs7.fr hf (fun g hg => by have := hA g hg; omega), kTxOk.loc H.l hF mv, ⟨Hs ++ [h6], hown, by rw [List.length_append, hHl]; rfl, fun j hj => ?_⟩⟩
 by_cases e : j < k
 ·rw [qhp _ _ _ (by rw [hHl]; exact e)]
  exact (hHt j e).fr kTxOk hF mv
 ·obtain rfl : j = k := by omega
  rw [show (Hs ++ [h6])[j]! = h6 by have := qhC Hs h6; rw [hHl] at this; exact this]
  refine (ht.fr kTxOk (R' := NfR w7 wr.heap.size) (Fr.of_below (own := []) hb7) (fun b _ h => ⟨by simp, h.below hb7⟩)).fr kTxOk hf (fun b hlt h => ?_)
  have h1 := hk b hlt (hAlt b h.1)
  exact ⟨h1.1, h.fr hf h1.1 (by have := H.s.s; omega), h1.2⟩
def qiK (t : TxT) (w : World) (e : Ending) (w' : World) : Prop := (∃ h', e = .returned (txV h') ∧ TxAt w' (NfR w' w.heap.size) h' t) ∧ Below w.heap.size w w'
theorem qge : ∀ (t : TxT) (h : TxH) (w : World) (R : Nat → Prop), TxAt w R h t → TxOk 1048576 t → Calls Tryz.prog 111 #[txV h] w (qiK t w) := by
 refine Tr.ind ?_
 intro v subs ih h w R ht0 hok
 have ht : TxAt w (· < w.heap.size) h (.mk v subs) := ht0.more (fun b hb _ => hb)
 have hl := ht.loc
 obtain ⟨L, hL, hsub⟩ := ht.subs_at
 have hlen := ht.len
 have hsm := hok.top
 have HS := Lib.hid (CnSt.start w (rwTx h) rzTx 52)
 have HZd := Lib.hid (fun (W : World) (hW : Below w.heap.size w W) => (hl.2.1.sl (fun _ => by simp [enc8])).belowMore hW hW.size)
 have HHd := Lib.hid hl.2.1.hd.1; have HLd := Lib.hid hl.2.1.len
 have HMd := Lib.hid (show h.d.2.1 ≤ 1048576 by have h1 := hsm.2.2.1; have h2 := hl.2.1.1; simp only [Tr.v, Tr.subs] at *; omega)
 have HZa := Lib.hid (fun (W : World) (hW : Below w.heap.size w W) => (hl.2.2.1.sl (fun _ => by simp [qao])).belowMore hW hW.size)
 have HHa := Lib.hid hl.2.2.1.hd.1; have HLa := Lib.hid hl.2.2.1.len
 have HMa := Lib.hid (show h.a.2.1 ≤ 1048576 by have h1 := hsm.2.2.2.1; have h2 := hl.2.2.1.1; simp only [Tr.v, Tr.subs] at *; omega)
 have HZi := Lib.hid (fun (W : World) (hW : Below w.heap.size w W) => (hl.2.2.2.1.sl (fun _ => by simp [qaz])).belowMore hW hW.size)
 have HHi := Lib.hid hl.2.2.2.1.hd.1; have HLi := Lib.hid hl.2.2.2.1.len
 have HMi := Lib.hid (show h.i.2.1 ≤ 1048576 by have h1 := hsm.2.2.2.2.1; have h2 := hl.2.2.2.1.1; simp only [Tr.v, Tr.subs] at *; omega)
 have HZp := Lib.hid (fun (W : World) (hW : Below w.heap.size w W) => (hl.2.2.2.2.sl (fun _ => by simp [qay])).belowMore hW hW.size)
 have HHp := Lib.hid hl.2.2.2.2.hd.1; have HLp := Lib.hid hl.2.2.2.2.len
 have HMp := Lib.hid (show h.p.2.1 ≤ 1048576 by have h1 := hsm.2.2.2.2.2.1; have h2 := hl.2.2.2.2.1; simp only [Tr.v, Tr.subs] at *; omega)
 have HSUB := Lib.hid hsub; have HLEN := Lib.hid (show subs.length = h.s.2.1 from hlen); have HN := Lib.hid hl.1
 have HIH := Lib.hid ih; have HOK := Lib.hid (fun k (hk : k < subs.length) => hok.subAt (j := k) hk)
 have HSB := Lib.hid (show h.s.2.1 ≤ 1048576 by have h1 := hsm.2.2.2.2.2.2.1; rw [hlen] at h1; exact h1)
 have HROW := Lib.hid hL
 clear ht0 ht hl hL hsub hlen hsm ih hok
 go_enter Tryz.func111, Tryz.ntmps111
 go_upto_region 1 with (first
  | (apply qai 52 52; exact rfl; exact rfl; exact rfl; (first | (with_reducible rfl) | (exact sz1 _ _) | (exact sz2 _ _ _) | (exact sz3 _ _ _ _)); exact rfl; exact qap; exact rfl; simp [Value.oneCell'])
  | fail)
 generalize ((w.alloc (.cells (rwTx h) 52)).alloc (.cells rzTx 52)) = V0 at *
 generalize (Value.agg (rwTx h)) = arg0 at *
 have y0 := HS.out.cell (i := 2) (v := slV h.d) rfl
 have hb0 : Below V0.heap.size V0 (V0.alloc (.cells #[] 5)) := (Below.refl _ V0).alloc (Nat.le_refl _) _
 have y0' := qaC y0 hb0
 have HBA := Lib.hid hb0
 have HZZ := Lib.hid (HZd.out _ (HS.out.b.trans (hb0.mono HS.out.b.size)))
 have HOW := Lib.hid (qbc (T := 5) (k := 1) V0)
 have hm9 := HMd.out
 clear hb0
 go_wp2_with (at_builtin; refine qaY qer rfl _ _ rfl V0.heap.size (some ⟨V0.heap.size, 0, none⟩) 0 0 [] ?hx0 HOW.out h.d.1 h.d.2.1 h.d.2.2 v.data ?hy0 HZZ.out HHd.out (by omega) HBA.out.size ?hk0)
 (try case hx0 => rfl)
 (try case hy0 => rfl)
 case hk0 =>
 intro A0 c0 w0 hr hb _
 replace hr : w0.ownsRow V0.heap.size 5 1 (.slice A0 h.d.2.1 c0) h.d.2.1 (v.data.flatMap enc8) := by simpa using hr
 have hbv : Below V0.heap.size V0 w0 := HBA.out.trans hb
 have HRd := Lib.hid (SlR.nown hr (fun _ => rfl) HLd.out HS.out.s)
 replace HS := Lib.hid (HS.out.call hbv)
 have z0 := HS.out.cell (i := 2) (v := slV h.d) rfl
 have f0 := HS.out.frz 2
 clear hr hb hbv HBA HZZ HOW hm9 y0 y0'
 go_upto_region 2 with fail
 replace HS := Lib.hid (HS.out.set 2 (.slice A0 h.d.2.1 c0))
 replace HS := Lib.hid (show CnSt w (w0.setCell ⟨w.heap.size, 2, none⟩ (.slice A0 h.d.2.1 c0)) #[.int .i32 h.n.ty, .string h.n.path, .slice A0 h.d.2.1 c0, slV h.a, .int .i64 h.n.ow, .int .i32 h.n.ve, .int .i32 h.n.cr, .bool h.n.qh, .int .i64 h.n.qc, .int .i64 h.n.qb, .int .i64 h.n.si, .int .i32 h.n.st, slV h.i, slV h.p, .int .i32 h.n.co, slV h.s] _ _ from HS.out)
 replace HRd := Lib.hid (HRd.out.nput (fun _ => by simp [enc8]) 2 (.slice A0 h.d.2.1 c0))
 generalize w0.setCell ⟨w.heap.size, 2, none⟩ (.slice A0 h.d.2.1 c0) = V1 at *
 clear z0 f0
 have y1 := HS.out.cell (i := 3) (v := slV h.a) rfl
 have hb0 : Below V1.heap.size V1 (V1.alloc (.cells #[] 246)) := (Below.refl _ V1).alloc (Nat.le_refl _) _
 have y1' := qaC y1 hb0
 have HBA := Lib.hid hb0
 have HZZ := Lib.hid (HZa.out _ (HS.out.b.trans (hb0.mono HS.out.b.size)))
 have HOW := Lib.hid (qbc (T := 246) (k := 3) V1)
 have hm9 := HMa.out
 clear hb0
 go_wp2_with (at_builtin; refine qaY qfu rfl _ _ rfl V1.heap.size (some ⟨V1.heap.size, 0, none⟩) 0 0 [] ?hx1 HOW.out h.a.1 h.a.2.1 h.a.2.2 v.acl ?hy1 HZZ.out HHa.out (by omega) HBA.out.size ?hk1)
 (try case hx1 => rfl)
 (try case hy1 => rfl)
 case hk1 =>
 intro A1 c1 w1 hr hb _
 replace hr : w1.ownsRow V1.heap.size 246 3 (.slice A1 h.a.2.1 c1) h.a.2.1 (v.acl.flatMap qao) := by simpa using hr
 have hbv : Below V1.heap.size V1 w1 := HBA.out.trans hb
 have HRa := Lib.hid (SlR.nown hr (fun _ => rfl) HLa.out HS.out.s)
 replace HS := Lib.hid (HS.out.call hbv)
 replace HRd := Lib.hid (HRd.out.nlater hbv (fun _ => by simp [enc8]))
 have z1 := HS.out.cell (i := 3) (v := slV h.a) rfl
 have f1 := HS.out.frz 3
 clear hr hb hbv HBA HZZ HOW hm9 y1 y1'
 go_upto_region 3 with fail
 replace HS := Lib.hid (HS.out.set 3 (.slice A1 h.a.2.1 c1))
 replace HS := Lib.hid (show CnSt w (w1.setCell ⟨w.heap.size, 3, none⟩ (.slice A1 h.a.2.1 c1)) #[.int .i32 h.n.ty, .string h.n.path, .slice A0 h.d.2.1 c0, .slice A1 h.a.2.1 c1, .int .i64 h.n.ow, .int .i32 h.n.ve, .int .i32 h.n.cr, .bool h.n.qh, .int .i64 h.n.qc, .int .i64 h.n.qb, .int .i64 h.n.si, .int .i32 h.n.st, slV h.i, slV h.p, .int .i32 h.n.co, slV h.s] _ _ from HS.out)
 replace HRd := Lib.hid (HRd.out.nput (fun _ => by simp [enc8]) 3 (.slice A1 h.a.2.1 c1))
 replace HRa := Lib.hid (HRa.out.nput (fun _ => by simp [qao]) 3 (.slice A1 h.a.2.1 c1))
 generalize w1.setCell ⟨w.heap.size, 3, none⟩ (.slice A1 h.a.2.1 c1) = V2 at *
 clear z1 f1
 have y2 := HS.out.cell (i := 12) (v := slV h.i) rfl
 have hb0 : Below V2.heap.size V2 (V2.alloc (.cells #[] 155)) := (Below.refl _ V2).alloc (Nat.le_refl _) _
 have y2' := qaC y2 hb0
 have HBA := Lib.hid hb0
 have HZZ := Lib.hid (HZi.out _ (HS.out.b.trans (hb0.mono HS.out.b.size)))
 have HOW := Lib.hid (qbc (T := 155) (k := 2) V2)
 have hm9 := HMi.out
 clear hb0
 go_wp2_with (at_builtin; refine qaY qht rfl _ _ rfl V2.heap.size (some ⟨V2.heap.size, 0, none⟩) 0 0 [] ?hx2 HOW.out h.i.1 h.i.2.1 h.i.2.2 v.ids ?hy2 HZZ.out HHi.out (by omega) HBA.out.size ?hk2)
 (try case hx2 => rfl)
 (try case hy2 => rfl)
 case hk2 =>
 intro A2 c2 w2 hr hb _
 replace hr : w2.ownsRow V2.heap.size 155 2 (.slice A2 h.i.2.1 c2) h.i.2.1 (v.ids.flatMap qaz) := by simpa using hr
 have hbv : Below V2.heap.size V2 w2 := HBA.out.trans hb
 have HRi := Lib.hid (SlR.nown hr (fun _ => rfl) HLi.out HS.out.s)
 replace HS := Lib.hid (HS.out.call hbv)
 replace HRd := Lib.hid (HRd.out.nlater hbv (fun _ => by simp [enc8]))
 replace HRa := Lib.hid (HRa.out.nlater hbv (fun _ => by simp [qao]))
 have z2 := HS.out.cell (i := 12) (v := slV h.i) rfl
 have f2 := HS.out.frz 12
 clear hr hb hbv HBA HZZ HOW hm9 y2 y2'
 go_upto_region 4 with fail
 replace HS := Lib.hid (HS.out.set 12 (.slice A2 h.i.2.1 c2))
 replace HS := Lib.hid (show CnSt w (w2.setCell ⟨w.heap.size, 12, none⟩ (.slice A2 h.i.2.1 c2)) #[.int .i32 h.n.ty, .string h.n.path, .slice A0 h.d.2.1 c0, .slice A1 h.a.2.1 c1, .int .i64 h.n.ow, .int .i32 h.n.ve, .int .i32 h.n.cr, .bool h.n.qh, .int .i64 h.n.qc, .int .i64 h.n.qb, .int .i64 h.n.si, .int .i32 h.n.st, .slice A2 h.i.2.1 c2, slV h.p, .int .i32 h.n.co, slV h.s] _ _ from HS.out)
 replace HRd := Lib.hid (HRd.out.nput (fun _ => by simp [enc8]) 12 (.slice A2 h.i.2.1 c2))
 replace HRa := Lib.hid (HRa.out.nput (fun _ => by simp [qao]) 12 (.slice A2 h.i.2.1 c2))
 replace HRi := Lib.hid (HRi.out.nput (fun _ => by simp [qaz]) 12 (.slice A2 h.i.2.1 c2))
 generalize w2.setCell ⟨w.heap.size, 12, none⟩ (.slice A2 h.i.2.1 c2) = V3 at *
 clear z2 f2
 have y3 := HS.out.cell (i := 13) (v := slV h.p) rfl
 have hb0 : Below V3.heap.size V3 (V3.alloc (.cells #[] 9)) := (Below.refl _ V3).alloc (Nat.le_refl _) _
 have y3' := qaC y3 hb0
 have HBA := Lib.hid hb0
 have HZZ := Lib.hid (HZp.out _ (HS.out.b.trans (hb0.mono HS.out.b.size)))
 have HOW := Lib.hid (qbc (T := 9) (k := 1) V3)
 have hm9 := HMp.out
 clear hb0
 go_wp2_with (at_builtin; refine qaY qfw rfl _ _ rfl V3.heap.size (some ⟨V3.heap.size, 0, none⟩) 0 0 [] ?hx3 HOW.out h.p.1 h.p.2.1 h.p.2.2 v.paths ?hy3 HZZ.out HHp.out (by omega) HBA.out.size ?hk3)
 (try case hx3 => rfl)
 (try case hy3 => rfl)
 case hk3 =>
 intro A3 c3 w3 hr hb _
 replace hr : w3.ownsRow V3.heap.size 9 1 (.slice A3 h.p.2.1 c3) h.p.2.1 (v.paths.flatMap qay) := by simpa using hr
 have hbv : Below V3.heap.size V3 w3 := HBA.out.trans hb
 have HRp := Lib.hid (SlR.nown hr (fun _ => rfl) HLp.out HS.out.s)
 replace HS := Lib.hid (HS.out.call hbv)
 replace HRd := Lib.hid (HRd.out.nlater hbv (fun _ => by simp [enc8]))
 replace HRa := Lib.hid (HRa.out.nlater hbv (fun _ => by simp [qao]))
 replace HRi := Lib.hid (HRi.out.nlater hbv (fun _ => by simp [qaz]))
 have z3 := HS.out.cell (i := 13) (v := slV h.p) rfl
 have f3 := HS.out.frz 13
 clear hr hb hbv HBA HZZ HOW hm9 y3 y3'
 go_upto_region 5 with fail
 replace HS := Lib.hid (HS.out.set 13 (.slice A3 h.p.2.1 c3))
 replace HS := Lib.hid (show CnSt w (w3.setCell ⟨w.heap.size, 13, none⟩ (.slice A3 h.p.2.1 c3)) #[.int .i32 h.n.ty, .string h.n.path, .slice A0 h.d.2.1 c0, .slice A1 h.a.2.1 c1, .int .i64 h.n.ow, .int .i32 h.n.ve, .int .i32 h.n.cr, .bool h.n.qh, .int .i64 h.n.qc, .int .i64 h.n.qb, .int .i64 h.n.si, .int .i32 h.n.st, .slice A2 h.i.2.1 c2, .slice A3 h.p.2.1 c3, .int .i32 h.n.co, slV h.s] _ _ from HS.out)
 replace HRd := Lib.hid (HRd.out.nput (fun _ => by simp [enc8]) 13 (.slice A3 h.p.2.1 c3))
 replace HRa := Lib.hid (HRa.out.nput (fun _ => by simp [qao]) 13 (.slice A3 h.p.2.1 c3))
 replace HRi := Lib.hid (HRi.out.nput (fun _ => by simp [qaz]) 13 (.slice A3 h.p.2.1 c3))
 replace HRp := Lib.hid (HRp.out.nput (fun _ => by simp [qay]) 13 (.slice A3 h.p.2.1 c3))
 generalize w3.setCell ⟨w.heap.size, 13, none⟩ (.slice A3 h.p.2.1 c3) = V4 at *
 clear z3 f3
 have hb0 : Below V4.heap.size V4 (V4.alloc (.cells #[] 52)) := (Below.refl _ V4).alloc (Nat.le_refl _) _
 have HOW := Lib.hid (qbc (T := 52) (k := 16) V4)
 have HV4 := Lib.hid HS.out.s
 replace HS := Lib.hid (HS.out.call hb0)
 have HR0 := Lib.hid (show CtR w ⟨h.n, (A0, h.d.2.1, c0), (A1, h.a.2.1, c1), (A2, h.i.2.1, c2), (A3, h.p.2.1, c3), h.s⟩ v subs rzTx 0 (some ⟨V4.heap.size, 0, none⟩) 0 (V4.alloc (.cells #[] 52)) from ⟨HS.out, ⟨HN.out, HRd.out.fr (Fr.of_below (own := []) hb0) (fun b hlt h => ⟨by simp, h.below hb0, fun o e => by injection e with e; injection e with e1 _; omega⟩) (fun _ => by simp [enc8]), HRa.out.fr (Fr.of_below (own := []) hb0) (fun b hlt h => ⟨by simp, h.below hb0, fun o e => by injection e with e; injection e with e1 _; omega⟩) (fun _ => by simp [qao]), HRi.out.fr (Fr.of_below (own := []) hb0) (fun b hlt h => ⟨by simp, h.below hb0, fun o e => by injection e with e; injection e with e1 _; omega⟩) (fun _ => by simp [qaz]), HRp.out.fr (Fr.of_below (own := []) hb0) (fun b hlt h => ⟨by simp, h.below hb0, fun o e => by injection e with e; injection e with e1 _; omega⟩) (fun _ => by simp [qay])⟩, ⟨[], qfx HOW.out HV4.out, rfl, fun j hj => absurd hj (by omega)⟩⟩)
 clear HS HRd HRa HRi HRp
 clear hb0 HOW HV4
 go_wp2_with fail
 go_loopw [3, 4] (fun sv i wr => ∃ (k : Nat) (A : Option Addr) (c : Nat), i = .int .i64 ↑k ∧ k ≤ h.s.2.1 ∧ sv = .slice A k c ∧ CtR w ⟨h.n, (A0, h.d.2.1, c0), (A1, h.a.2.1, c1), (A2, h.i.2.1, c2), (A3, h.p.2.1, c3), h.s⟩ v subs rzTx k A c wr) (fun _ i _ => h.s.2.1 - (RowKit.intOf i).toNat)
 case atStart => exact ⟨0, _, 0, rfl, Nat.zero_le _, rfl, HR0.out⟩
 case round =>
 clear HR0
 obtain ⟨k, A, c, rfl, hk, rfl, hR⟩ := hrel
 have HR := Lib.hid hR; clear hR
 have xs : wr.cell? ⟨w.heap.size, 15, none⟩ = some (slV h.s) := HR.out.s.cell rfl
 have hsb := HSB.out
 by_cases hlt : k < h.s.2.1
 ·obtain ⟨b, off, eb, hbl, hcb⟩ := HROW.out.2.2 (show 0 < h.s.2.1 by omega)
  have hbw := HR.out.s.b
  have hr1 : wr.rangeAt b (off + k * 16) (qar L[k]!) := fun i u hu => qaC (hcb k hlt i u hu) hbw
  have xs' : wr.cell? ⟨w.heap.size, 15, none⟩ = some (.slice (some ⟨b, off, none⟩) h.s.2.1 h.s.2.2) := by rw [xs, ← eb]
  have HIHk := Lib.hid (HIH.out k (by rw [HLEN.out]; exact hlt) L[k]! wr _ ((HSUB.out k hlt).fr kTxOk (R' := (· < w.heap.size)) (Fr.of_below (own := []) hbw) (fun b _ h => ⟨by simp, h⟩)) (HOK.out k (by rw [HLEN.out]; exact hlt)))
  have hki : (k : Int) < (h.s.2.1 : Int) := by omega
  have hk0 : (0 : Int) ≤ (k : Int) := by omega
  clear hcb hbw xs eb
  generalize L[k]! = hj at *
  go_wp2_with (first
   | (apply qau 52; exact rfl; exact rfl; exact rfl; exact hr1; exact qaF; exact rfl; exact qap)
   | fail)
  refine HIHk.out.mono ?_
  rintro e w6 ⟨⟨h6, rfl, ht6⟩, hb6⟩
  have HB6 := Lib.hid hb6; have HT6 := Lib.hid ht6
  clear hb6 ht6 HIHk hr1 xs'
  obtain ⟨Hs, hrow, hHl, hHt⟩ := HR.out.r
  have hb7 : Below w6.heap.size w6 (w6.alloc (.cells (qar h6).toArray 52)) := (Below.refl _ w6).alloc (Nat.le_refl _) _
  have HB7 := Lib.hid hb7
  have HX7 := Lib.hid (show (w6.alloc (.cells (qar h6).toArray 52)).rangeAt w6.heap.size 0 (qar h6) from qal (pre := []) (mid := qar h6) (post := []) (qab w6 _) (by simp) rfl)
  have HRW := Lib.hid hrow; have HHL := Lib.hid hHl; have HHT := Lib.hid hHt
  have HOW := Lib.hid (qcb hrow (HB6.out.trans (hb7.mono HB6.out.size)))
  have HSZ := Lib.hid (show w.heap.size + 2 ≤ (w6.alloc (.cells (qar h6).toArray 52)).heap.size from Nat.le_trans HR.out.s.s (Nat.le_trans HB6.out.size hb7.size))
  clear hrow hHl hHt hb7
  go_wp2_with (first
   | (at_builtin; refine qfa qjg HOW.out HHL.out h6 w6.heap.size rfl _ _ rfl ?hx8 ?hy8 HX7.out (by omega) HSZ.out ?hk8)
   | fail)
  (try case hx8 => rfl)
  (try case hy8 => rfl)
  case hk8 =>
  intro A8 c8 w8 hv8 hon8
  have HRN := Lib.hid (HR.out.step HB6.out HT6.out HB7.out HRW.out HHL.out HHT.out (by rw [List.flatMap_append, List.flatMap_singleton]; exact hv8) hon8)
  clear hv8 hon8 HR HB6 HT6 HB7 HX7 HRW HHL HHT HOW HSZ
  go_wp2_with fail
  go_roundw
  case rel => exact ⟨k + 1, A8, c8, by go_num, by omega, rfl, HRN.out⟩
  case measure => show h.s.2.1 - ((↑k + 1 : Int)).toNat < h.s.2.1 - (↑k : Int).toNat; omega
 ·have hkn : k = h.s.2.1 := by omega
  subst hkn
  obtain ⟨Hs, hrow, hHl, hHt⟩ := HR.out.r
  have hsz := HR.out.s.s
  have HS9 := Lib.hid (HR.out.s.set 15 (.slice A h.s.2.1 c))
  replace HS9 := Lib.hid (show CnSt w (wr.setCell ⟨w.heap.size, 15, none⟩ (.slice A h.s.2.1 c)) (qar ⟨h.n, (A0, h.d.2.1, c0), (A1, h.a.2.1, c1), (A2, h.i.2.1, c2), (A3, h.p.2.1, c3), (A, h.s.2.1, c)⟩).toArray rzTx 52 from HS9.out)
  have hf9 := qaE wr w.heap.size 15 (.slice A h.s.2.1 c)
  have hl9 := kTxOk.loc (R' := NfR (wr.setCell ⟨w.heap.size, 15, none⟩ (.slice A h.s.2.1 c)) (w.heap.size + 2)) HR.out.l hf9 (fun b _ h => ⟨by have := h.1.1; simp; omega, h.1.fr hf9 (by have := h.1.1; simp; omega) (Nat.le_refl _)⟩)
  have hr9 := qdV hrow hf9 (fun g hg => by rw [List.mem_singleton.1 hg]; omega)
  have ht9 : ∀ j, j < h.s.2.1 → TxAt (wr.setCell ⟨w.heap.size, 15, none⟩ (.slice A h.s.2.1 c)) (NfR (wr.setCell ⟨w.heap.size, 15, none⟩ (.slice A h.s.2.1 c)) (w.heap.size + 2)) Hs[j]! subs[j]! := fun j hj => (hHt j hj).fr kTxOk hf9 (fun b _ h => ⟨by have := h.1.1; simp; omega, h.1.fr hf9 (by have := h.1.1; simp; omega) (Nat.le_refl _)⟩)
  have z9 : wr.cell? ⟨w.heap.size, 15, none⟩ = some (slV h.s) := xs
  have f9 := HR.out.s.frz 15
  have HL9 := Lib.hid hl9; have HR9 := Lib.hid hr9; have HT9 := Lib.hid ht9; have HHL := Lib.hid hHl
  clear hl9 hr9 ht9 hf9 hrow hHl hHt hsz HR
  go_upto_region 11 with fail
  generalize wr.setCell ⟨w.heap.size, 15, none⟩ (.slice A h.s.2.1 c) = V9 at *
  clear xs z9 f9
  have gC : V9.heap[w.heap.size]? = some (.cells #[.int .i32 h.n.ty, .string h.n.path, .slice A0 h.d.2.1 c0, .slice A1 h.a.2.1 c1, .int .i64 h.n.ow, .int .i32 h.n.ve, .int .i32 h.n.cr, .bool h.n.qh, .int .i64 h.n.qc, .int .i64 h.n.qb, .int .i64 h.n.si, .int .i32 h.n.st, .slice A2 h.i.2.1 c2, .slice A3 h.p.2.1 c3, .int .i32 h.n.co, .slice A h.s.2.1 c] 52 (0, 0)) := HS9.out.c
  have gZ := HS9.out.z
  have hf := qaS V9 (w.heap.size + 1) (qar ⟨h.n, (A0, h.d.2.1, c0), (A1, h.a.2.1, c1), (A2, h.i.2.1, c2), (A3, h.p.2.1, c3), (A, h.s.2.1, c)⟩).toArray
  have hTR : TxAt (V9.setRow (w.heap.size + 1) (qar ⟨h.n, (A0, h.d.2.1, c0), (A1, h.a.2.1, c1), (A2, h.i.2.1, c2), (A3, h.p.2.1, c3), (A, h.s.2.1, c)⟩).toArray) (NfR (V9.setRow (w.heap.size + 1) (qar ⟨h.n, (A0, h.d.2.1, c0), (A1, h.a.2.1, c1), (A2, h.i.2.1, c2), (A3, h.p.2.1, c3), (A, h.s.2.1, c)⟩).toArray) w.heap.size) ⟨h.n, (A0, h.d.2.1, c0), (A1, h.a.2.1, c1), (A2, h.i.2.1, c2), (A3, h.p.2.1, c3), (A, h.s.2.1, c)⟩ (.mk v subs) := by
   have hmv : ∀ b, b < V9.heap.size → NfR V9 (w.heap.size + 2) b → b ∉ [w.heap.size + 1] ∧ NfR (V9.setRow (w.heap.size + 1) (qar ⟨h.n, (A0, h.d.2.1, c0), (A1, h.a.2.1, c1), (A2, h.i.2.1, c2), (A3, h.p.2.1, c3), (A, h.s.2.1, c)⟩).toArray) w.heap.size b := fun b _ h => by
    have hn : b ∉ [w.heap.size + 1] := by have := h.1; simp; omega
    exact ⟨hn, h.fr hf hn (by omega)⟩
   exact TrAt.of_subs (L := Hs) (kTxOk.loc HL9.out hf hmv) HLEN.out ((qfA HR9.out (fun _ => rfl) HHL.out).fr hf hmv (fun _ => by simp [qar])) (fun j hj => (HT9.out j hj).fr kTxOk hf hmv)
  have HTR := Lib.hid hTR
  have HBF := Lib.hid (below_setRow HS9.out.b (show w.heap.size ≤ w.heap.size + 1 by omega) (qar ⟨h.n, (A0, h.d.2.1, c0), (A1, h.a.2.1, c1), (A2, h.i.2.1, c2), (A3, h.p.2.1, c3), (A, h.s.2.1, c)⟩).toArray)
  clear hTR hf
  go_wp2_with (first
   | (apply qaw 52 52; exact rfl; exact rfl; exact rfl; (first | assumption | (refine qaa ?_; assumption) | (exact qab _ _) | (exact qae _ _ _) | (exact qag _ _ _ _) | (exact qas _ _ _ _ _) | (exact qaa (qab _ _)) | (exact qaa (qae _ _ _)) | (exact qaa (qag _ _ _ _)) | (exact qaa (qaa (qab _ _))) | (exact qaa (qaa (qae _ _ _))) | (exact qaa (qaa (qaa (qab _ _))))); exact qaF; exact rfl; exact qap)
   | (apply qam 52 52; exact rfl; exact rfl; exact rfl; exact rfl; (first | assumption | (refine qaa ?_; assumption) | (exact qab _ _) | (exact qae _ _ _) | (exact qag _ _ _ _) | (exact qas _ _ _ _ _) | (exact qaa (qab _ _)) | (exact qaa (qae _ _ _)) | (exact qaa (qag _ _ _ _)) | (exact qaa (qaa (qab _ _))) | (exact qaa (qaa (qae _ _ _))) | (exact qaa (qaa (qaa (qab _ _))))); exact qap; exact rfl; simp [Value.oneCell'])
   | fail)
  exact qaD rfl rfl (setRow_heap _ _ _ _ _ _ gZ) qaF rfl qap rfl ⟨⟨_, rfl, HTR.out⟩, HBF.out⟩
open Go.RowKit Go.MapKept Go.Maps
/-- the loop's state: the first k parts are copied -/
structure CrR (w : World) (h' : RsH) (v : RsF) (subs : List RsT) (Z : Array Value) (k : Nat) (A : Option Addr) (c : Nat) (wr : World) : Prop where
 s : CnSt w wr (qax h').toArray Z 59
 l : locRs wr (fun b => NfR wr (w.heap.size + 2) b ∧ offRow A b) h' v
 r : ∃ Hs : List RsH, wr.ownsRow (w.heap.size + 2) 59 22 (.slice A k c) k (Hs.flatMap qax) ∧ Hs.length = k ∧ ∀ j, j < k → RsAt wr (fun b => NfR wr (w.heap.size + 2) b ∧ offRow A b) Hs[j]! subs[j]!
theorem CrR.step {w : World} {h' : RsH} {v : RsF} {subs : List RsT} {Z : Array Value} {k : Nat} {A : Option Addr} {c : Nat} {wr w6 w7 w8 : World} (H : CrR w h' v subs Z k A c wr) (hb : Below wr.heap.size wr w6) {h6 : RsH} (ht : RsAt w6 (NfR w6 wr.heap.size) h6 subs[k]!) (hb7 : Below w6.heap.size w6 w7) {A' : Option Addr} {c' : Nat} {Hs : List RsH}
  (hr : wr.ownsRow (w.heap.size + 2) 59 22 (.slice A k c) k (Hs.flatMap qax)) (hHl : Hs.length = k) (hHt : ∀ j, j < k → RsAt wr (fun b => NfR wr (w.heap.size + 2) b ∧ offRow A b) Hs[j]! subs[j]!)
  (hown : w8.ownsRow (w.heap.size + 2) 59 22 (.slice A' (k + 1) c') (k + 1) ((Hs ++ [h6]).flatMap qax)) (hon : OnT A A' w7 w8) : CrR w h' v subs Z (k + 1) A' c' w8 := by
 have hb67 : Below wr.heap.size wr w7 := hb.trans (hb7.mono hb.size)
 have hs7 := H.s.call hb67
 obtain ⟨own, hf, hk, hoA⟩ := hon.keep
 have hA : ∀ g ∈ own, w.heap.size + 2 ≤ g := fun g hg => by
  have e := hoA g hg
  rcases qdA hr with ⟨e2, _⟩ | ⟨g2, cur, e2, h2, _⟩
  ·rw [e2] at e; cases e
  ·rw [e2] at e; injection e with e; injection e with e3 _; rw [← e3]; exact h2
 have hAlt : ∀ b, wr.heap.size ≤ b → offRow A b := fun b hb o e => by
  rcases qdA hr with ⟨e2, _⟩ | ⟨g2, cur, e2, _, h3, _⟩
  ·rw [e2] at e; cases e
  ·rw [e2] at e; injection e with e; injection e with e3 _
   have := (Array.getElem?_eq_some_iff.1 h3).1; omega
 have mv : ∀ b, b < wr.heap.size → (NfR wr (w.heap.size + 2) b ∧ offRow A b) → b ∉ own ∧ NfR w8 (w.heap.size + 2) b ∧ offRow A' b := fun b hlt h => by
  have h1 := hk b (Nat.lt_of_lt_of_le hlt hb67.size) h.2
  exact ⟨h1.1, (h.1.below hb67).fr hf h1.1 (Nat.le_refl _), h1.2⟩
 have hF : Fr own wr w8 := ⟨hf.os.trans hb67.os, hf.tape.trans hb67.tape, hf.output.trans hb67.output, Nat.le_trans hb67.size hf.size, fun g hg hn => (hf.block g (Nat.lt_of_lt_of_le hg hb67.size) hn).trans (hb67.block g hg)⟩
 refine ⟨hs7.fr hf (fun g hg => by have := hA g hg; omega), kRsOk.loc H.l hF mv, ⟨Hs ++ [h6], hown, by rw [List.length_append, hHl]; rfl, fun j hj => ?_⟩⟩
 by_cases e : j < k
 ·rw [qhp _ _ _ (by rw [hHl]; exact e)]
  exact (hHt j e).fr kRsOk hF mv
 ·obtain rfl : j = k := by omega
  rw [show (Hs ++ [h6])[j]! = h6 by have := qhC Hs h6; rw [hHl] at this; exact this]
  refine (ht.fr kRsOk (R' := NfR w7 wr.heap.size) (Fr.of_below (own := []) hb7) (fun b _ h => ⟨by simp, h.below hb7⟩)).fr kRsOk hf (fun b hlt h => ?_)
  have h1 := hk b hlt (hAlt b h.1)
  exact ⟨h1.1, h.fr hf h1.1 (by have := H.s.s; omega), h1.2⟩
def qip (t : RsT) (w : World) (e : Ending) (w' : World) : Prop := (∃ h', e = .returned (rsV h') ∧ RsAt w' (NfR w' w.heap.size) h' t) ∧ Below w.heap.size w w'
theorem qga : ∀ (t : RsT) (h : RsH) (w : World) (R : Nat → Prop), RsAt w R h t → RsOk 1048576 t → Calls Tryz.prog 112 #[rsV h] w (qip t w) := by
 refine Tr.ind ?_
 intro v subs ih h w R ht0 hok
 have ht : RsAt w (· < w.heap.size) h (.mk v subs) := ht0.more (fun b hb _ => hb)
 have hl := ht.loc
 obtain ⟨L, hL, hsub⟩ := ht.subs_at
 have hlen := ht.len
 have hsm := hok.top
 have HS := Lib.hid (CnSt.start w (rwRs h) rzRs 59)
 have HZd := Lib.hid (fun (W : World) (hW : Below w.heap.size w W) => (hl.2.1.sl (fun _ => by simp [enc8])).belowMore hW hW.size)
 have HHd := Lib.hid hl.2.1.hd.1; have HLd := Lib.hid hl.2.1.len
 have HMd := Lib.hid (show h.d.2.1 ≤ 1048576 by have h1 := hsm.2.2.1; have h2 := hl.2.1.1; simp only [Tr.v, Tr.subs] at *; omega)
 have HZa := Lib.hid (fun (W : World) (hW : Below w.heap.size w W) => (hl.2.2.1.sl (fun _ => by simp [qao])).belowMore hW hW.size)
 have HHa := Lib.hid hl.2.2.1.hd.1; have HLa := Lib.hid hl.2.2.1.len
 have HMa := Lib.hid (show h.a.2.1 ≤ 1048576 by have h1 := hsm.2.2.2.1; have h2 := hl.2.2.1.1; simp only [Tr.v, Tr.subs] at *; omega)
 have HZm := Lib.hid (fun (W : World) (hW : Below w.heap.size w W) => (hl.2.2.2.1.sl (fun _ => by simp [qay])).belowMore hW hW.size)
 have HHm := Lib.hid hl.2.2.2.1.hd.1; have HLm := Lib.hid hl.2.2.2.1.len
 have HMm := Lib.hid (show h.m.2.1 ≤ 1048576 by have h1 := hsm.2.2.2.2.1; have h2 := hl.2.2.2.1.1; simp only [Tr.v, Tr.subs] at *; omega)
 have HZi := Lib.hid (fun (W : World) (hW : Below w.heap.size w W) => (hl.2.2.2.2.sl (fun _ => by simp [qaz])).belowMore hW hW.size)
 have HHi := Lib.hid hl.2.2.2.2.hd.1; have HLi := Lib.hid hl.2.2.2.2.len
 have HMi := Lib.hid (show h.i.2.1 ≤ 1048576 by have h1 := hsm.2.2.2.2.2.1; have h2 := hl.2.2.2.2.1; simp only [Tr.v, Tr.subs] at *; omega)
 have HSUB := Lib.hid hsub; have HLEN := Lib.hid (show subs.length = h.s.2.1 from hlen); have HN := Lib.hid hl.1
 have HIH := Lib.hid ih; have HOK := Lib.hid (fun k (hk : k < subs.length) => hok.subAt (j := k) hk)
 have HSB := Lib.hid (show h.s.2.1 ≤ 1048576 by have h1 := hsm.2.2.2.2.2.2.1; rw [hlen] at h1; exact h1)
 have HROW := Lib.hid hL
 clear ht0 ht hl hL hsub hlen hsm ih hok
 go_enter Tryz.func112, Tryz.ntmps112
 go_upto_region 1 with (first
  | (apply qai 59 59; exact rfl; exact rfl; exact rfl; (first | (with_reducible rfl) | (exact sz1 _ _) | (exact sz2 _ _ _) | (exact sz3 _ _ _ _)); exact rfl; exact qbk; exact rfl; simp [Value.oneCell'])
  | fail)
 generalize ((w.alloc (.cells (rwRs h) 59)).alloc (.cells rzRs 59)) = V0 at *
 generalize (Value.agg (rwRs h)) = arg0 at *
 have y0 := HS.out.cell (i := 14) (v := slV h.d) rfl
 have hb0 : Below V0.heap.size V0 (V0.alloc (.cells #[] 5)) := (Below.refl _ V0).alloc (Nat.le_refl _) _
 have y0' := qaC y0 hb0
 have HBA := Lib.hid hb0
 have HZZ := Lib.hid (HZd.out _ (HS.out.b.trans (hb0.mono HS.out.b.size)))
 have HOW := Lib.hid (qbc (T := 5) (k := 1) V0)
 have hm9 := HMd.out
 clear hb0
 go_wp2_with (at_builtin; refine qaY qer rfl _ _ rfl V0.heap.size (some ⟨V0.heap.size, 0, none⟩) 0 0 [] ?hx0 HOW.out h.d.1 h.d.2.1 h.d.2.2 v.data ?hy0 HZZ.out HHd.out (by omega) HBA.out.size ?hk0)
 (try case hx0 => rfl)
 (try case hy0 => rfl)
 case hk0 =>
 intro A0 c0 w0 hr hb _
 replace hr : w0.ownsRow V0.heap.size 5 1 (.slice A0 h.d.2.1 c0) h.d.2.1 (v.data.flatMap enc8) := by simpa using hr
 have hbv : Below V0.heap.size V0 w0 := HBA.out.trans hb
 have HRd := Lib.hid (SlR.nown hr (fun _ => rfl) HLd.out HS.out.s)
 replace HS := Lib.hid (HS.out.call hbv)
 have z0 := HS.out.cell (i := 14) (v := slV h.d) rfl
 have f0 := HS.out.frz 14
 clear hr hb hbv HBA HZZ HOW hm9 y0 y0'
 go_upto_region 2 with fail
 replace HS := Lib.hid (HS.out.set 14 (.slice A0 h.d.2.1 c0))
 replace HS := Lib.hid (show CnSt w (w0.setCell ⟨w.heap.size, 14, none⟩ (.slice A0 h.d.2.1 c0)) #[.int .i32 h.n.ty, .int .i32 h.n.co, .string h.n.path, .int .i64 h.n.q.a, .int .i64 h.n.q.b, .int .i64 h.n.q.c, .int .i64 h.n.q.d, .int .i32 h.n.q.e, .int .i32 h.n.q.f, .int .i32 h.n.q.g, .int .i64 h.n.q.h, .int .i32 h.n.q.i, .int .i32 h.n.q.j, .int .i64 h.n.q.k, .slice A0 h.d.2.1 c0, slV h.a, slV h.m, .int .i32 h.n.ct, .int .i64 h.n.si, .int .i32 h.n.st, slV h.i, slV h.s] _ _ from HS.out)
 replace HRd := Lib.hid (HRd.out.nput (fun _ => by simp [enc8]) 14 (.slice A0 h.d.2.1 c0))
 generalize w0.setCell ⟨w.heap.size, 14, none⟩ (.slice A0 h.d.2.1 c0) = V1 at *
 clear z0 f0
 have y1 := HS.out.cell (i := 15) (v := slV h.a) rfl
 have hb0 : Below V1.heap.size V1 (V1.alloc (.cells #[] 246)) := (Below.refl _ V1).alloc (Nat.le_refl _) _
 have y1' := qaC y1 hb0
 have HBA := Lib.hid hb0
 have HZZ := Lib.hid (HZa.out _ (HS.out.b.trans (hb0.mono HS.out.b.size)))
 have HOW := Lib.hid (qbc (T := 246) (k := 3) V1)
 have hm9 := HMa.out
 clear hb0
 go_wp2_with (at_builtin; refine qaY qfu rfl _ _ rfl V1.heap.size (some ⟨V1.heap.size, 0, none⟩) 0 0 [] ?hx1 HOW.out h.a.1 h.a.2.1 h.a.2.2 v.acl ?hy1 HZZ.out HHa.out (by omega) HBA.out.size ?hk1)
 (try case hx1 => rfl)
 (try case hy1 => rfl)
 case hk1 =>
 intro A1 c1 w1 hr hb _
 replace hr : w1.ownsRow V1.heap.size 246 3 (.slice A1 h.a.2.1 c1) h.a.2.1 (v.acl.flatMap qao) := by simpa using hr
 have hbv : Below V1.heap.size V1 w1 := HBA.out.trans hb
 have HRa := Lib.hid (SlR.nown hr (fun _ => rfl) HLa.out HS.out.s)
 replace HS := Lib.hid (HS.out.call hbv)
 replace HRd := Lib.hid (HRd.out.nlater hbv (fun _ => by simp [enc8]))
 have z1 := HS.out.cell (i := 15) (v := slV h.a) rfl
 have f1 := HS.out.frz 15
 clear hr hb hbv HBA HZZ HOW hm9 y1 y1'
 go_upto_region 3 with fail
 replace HS := Lib.hid (HS.out.set 15 (.slice A1 h.a.2.1 c1))
 replace HS := Lib.hid (show CnSt w (w1.setCell ⟨w.heap.size, 15, none⟩ (.slice A1 h.a.2.1 c1)) #[.int .i32 h.n.ty, .int .i32 h.n.co, .string h.n.path, .int .i64 h.n.q.a, .int .i64 h.n.q.b, .int .i64 h.n.q.c, .int .i64 h.n.q.d, .int .i32 h.n.q.e, .int .i32 h.n.q.f, .int .i32 h.n.q.g, .int .i64 h.n.q.h, .int .i32 h.n.q.i, .int .i32 h.n.q.j, .int .i64 h.n.q.k, .slice A0 h.d.2.1 c0, .slice A1 h.a.2.1 c1, slV h.m, .int .i32 h.n.ct, .int .i64 h.n.si, .int .i32 h.n.st, slV h.i, slV h.s] _ _ from HS.out)
 replace HRd := Lib.hid (HRd.out.nput (fun _ => by simp [enc8]) 15 (.slice A1 h.a.2.1 c1))
 replace HRa := Lib.hid (HRa.out.nput (fun _ => by simp [qao]) 15 (.slice A1 h.a.2.1 c1))
 generalize w1.setCell ⟨w.heap.size, 15, none⟩ (.slice A1 h.a.2.1 c1) = V2 at *
 clear z1 f1
 have y2 := HS.out.cell (i := 16) (v := slV h.m) rfl
 have hb0 : Below V2.heap.size V2 (V2.alloc (.cells #[] 9)) := (Below.refl _ V2).alloc (Nat.le_refl _) _
 have y2' := qaC y2 hb0
 have HBA := Lib.hid hb0
 have HZZ := Lib.hid (HZm.out _ (HS.out.b.trans (hb0.mono HS.out.b.size)))
 have HOW := Lib.hid (qbc (T := 9) (k := 1) V2)
 have hm9 := HMm.out
 clear hb0
 go_wp2_with (at_builtin; refine qaY qfw rfl _ _ rfl V2.heap.size (some ⟨V2.heap.size, 0, none⟩) 0 0 [] ?hx2 HOW.out h.m.1 h.m.2.1 h.m.2.2 v.names ?hy2 HZZ.out HHm.out (by omega) HBA.out.size ?hk2)
 (try case hx2 => rfl)
 (try case hy2 => rfl)
 case hk2 =>
 intro A2 c2 w2 hr hb _
 replace hr : w2.ownsRow V2.heap.size 9 1 (.slice A2 h.m.2.1 c2) h.m.2.1 (v.names.flatMap qay) := by simpa using hr
 have hbv : Below V2.heap.size V2 w2 := HBA.out.trans hb
 have HRm := Lib.hid (SlR.nown hr (fun _ => rfl) HLm.out HS.out.s)
 replace HS := Lib.hid (HS.out.call hbv)
 replace HRd := Lib.hid (HRd.out.nlater hbv (fun _ => by simp [enc8]))
 replace HRa := Lib.hid (HRa.out.nlater hbv (fun _ => by simp [qao]))
 have z2 := HS.out.cell (i := 16) (v := slV h.m) rfl
 have f2 := HS.out.frz 16
 clear hr hb hbv HBA HZZ HOW hm9 y2 y2'
 go_upto_region 4 with fail
 replace HS := Lib.hid (HS.out.set 16 (.slice A2 h.m.2.1 c2))
 replace HS := Lib.hid (show CnSt w (w2.setCell ⟨w.heap.size, 16, none⟩ (.slice A2 h.m.2.1 c2)) #[.int .i32 h.n.ty, .int .i32 h.n.co, .string h.n.path, .int .i64 h.n.q.a, .int .i64 h.n.q.b, .int .i64 h.n.q.c, .int .i64 h.n.q.d, .int .i32 h.n.q.e, .int .i32 h.n.q.f, .int .i32 h.n.q.g, .int .i64 h.n.q.h, .int .i32 h.n.q.i, .int .i32 h.n.q.j, .int .i64 h.n.q.k, .slice A0 h.d.2.1 c0, .slice A1 h.a.2.1 c1, .slice A2 h.m.2.1 c2, .int .i32 h.n.ct, .int .i64 h.n.si, .int .i32 h.n.st, slV h.i, slV h.s] _ _ from HS.out)
 replace HRd := Lib.hid (HRd.out.nput (fun _ => by simp [enc8]) 16 (.slice A2 h.m.2.1 c2))
 replace HRa := Lib.hid (HRa.out.nput (fun _ => by simp [qao]) 16 (.slice A2 h.m.2.1 c2))
 replace HRm := Lib.hid (HRm.out.nput (fun _ => by simp [qay]) 16 (.slice A2 h.m.2.1 c2))
 generalize w2.setCell ⟨w.heap.size, 16, none⟩ (.slice A2 h.m.2.1 c2) = V3 at *
 clear z2 f2
 have y3 := HS.out.cell (i := 20) (v := slV h.i) rfl
 have hb0 : Below V3.heap.size V3 (V3.alloc (.cells #[] 155)) := (Below.refl _ V3).alloc (Nat.le_refl _) _
 have y3' := qaC y3 hb0
 have HBA := Lib.hid hb0
 have HZZ := Lib.hid (HZi.out _ (HS.out.b.trans (hb0.mono HS.out.b.size)))
 have HOW := Lib.hid (qbc (T := 155) (k := 2) V3)
 have hm9 := HMi.out
 clear hb0
 go_wp2_with (at_builtin; refine qaY qht rfl _ _ rfl V3.heap.size (some ⟨V3.heap.size, 0, none⟩) 0 0 [] ?hx3 HOW.out h.i.1 h.i.2.1 h.i.2.2 v.ids ?hy3 HZZ.out HHi.out (by omega) HBA.out.size ?hk3)
 (try case hx3 => rfl)
 (try case hy3 => rfl)
 case hk3 =>
 intro A3 c3 w3 hr hb _
 replace hr : w3.ownsRow V3.heap.size 155 2 (.slice A3 h.i.2.1 c3) h.i.2.1 (v.ids.flatMap qaz) := by simpa using hr
 have hbv : Below V3.heap.size V3 w3 := HBA.out.trans hb
 have HRi := Lib.hid (SlR.nown hr (fun _ => rfl) HLi.out HS.out.s)
 replace HS := Lib.hid (HS.out.call hbv)
 replace HRd := Lib.hid (HRd.out.nlater hbv (fun _ => by simp [enc8]))
 replace HRa := Lib.hid (HRa.out.nlater hbv (fun _ => by simp [qao]))
 replace HRm := Lib.hid (HRm.out.nlater hbv (fun _ => by simp [qay]))
 have z3 := HS.out.cell (i := 20) (v := slV h.i) rfl
 have f3 := HS.out.frz 20
 clear hr hb hbv HBA HZZ HOW hm9 y3 y3'
 go_upto_region 5 with fail
 replace HS := Lib.hid (HS.out.set 20 (.slice A3 h.i.2.1 c3))
 replace HS := Lib.hid (show CnSt w (w3.setCell ⟨w.heap.size, 20, none⟩ (.slice A3 h.i.2.1 c3)) #[.int .i32 h.n.ty, .int .i32 h.n.co, .string h.n.path, .int .i64 h.n.q.a, .int .i64 h.n.q.b, .int .i64 h.n.q.c, .int .i64 h.n.q.d, .int .i32 h.n.q.e, .int .i32 h.n.q.f, .int .i32 h.n.q.g, .int .i64 h.n.q.h, .int .i32 h.n.q.i, .int .i32 h.n.q.j, .int .i64 h.n.q.k, .slice A0 h.d.2.1 c0, .slice A1 h.a.2.1 c1, .slice A2 h.m.2.1 c2, .int .i32 h.n.ct, .int .i64 h.n.si, .int .i32 h.n.st, .slice A3 h.i.2.1 c3, slV h.s] _ _ from HS.out)
 replace HRd := Lib.hid (HRd.out.nput (fun _ => by simp [enc8]) 20 (.slice A3 h.i.2.1 c3))
 replace HRa := Lib.hid (HRa.out.nput (fun _ => by simp [qao]) 20 (.slice A3 h.i.2.1 c3))
 replace HRm := Lib.hid (HRm.out.nput (fun _ => by simp [qay]) 20 (.slice A3 h.i.2.1 c3))
 replace HRi := Lib.hid (HRi.out.nput (fun _ => by simp [qaz]) 20 (.slice A3 h.i.2.1 c3))
 generalize w3.setCell ⟨w.heap.size, 20, none⟩ (.slice A3 h.i.2.1 c3) = V4 at *
 clear z3 f3
 have HR0 := Lib.hid (show CrR w ⟨h.n, (A0, h.d.2.1, c0), (A1, h.a.2.1, c1), (A2, h.m.2.1, c2), (A3, h.i.2.1, c3), h.s⟩ v subs rzRs 0 none 0 (V4) from ⟨HS.out, ⟨HN.out, HRd.out.fr (Fr.refl [] V4) (fun b hlt h => ⟨by simp, h, offRow.none_ b⟩) (fun _ => by simp [enc8]), HRa.out.fr (Fr.refl [] V4) (fun b hlt h => ⟨by simp, h, offRow.none_ b⟩) (fun _ => by simp [qao]), HRm.out.fr (Fr.refl [] V4) (fun b hlt h => ⟨by simp, h, offRow.none_ b⟩) (fun _ => by simp [qay]), HRi.out.fr (Fr.refl [] V4) (fun b hlt h => ⟨by simp, h, offRow.none_ b⟩) (fun _ => by simp [qaz])⟩, ⟨[], World.ownsRow_nil _ _ _ _, rfl, fun j hj => absurd hj (by omega)⟩⟩)
 clear HS HRd HRa HRm HRi
 go_wp2_with fail
 go_loopw [3, 4] (fun sv i wr => ∃ (k : Nat) (A : Option Addr) (c : Nat), i = .int .i64 ↑k ∧ k ≤ h.s.2.1 ∧ sv = .slice A k c ∧ CrR w ⟨h.n, (A0, h.d.2.1, c0), (A1, h.a.2.1, c1), (A2, h.m.2.1, c2), (A3, h.i.2.1, c3), h.s⟩ v subs rzRs k A c wr) (fun _ i _ => h.s.2.1 - (RowKit.intOf i).toNat)
 case atStart => exact ⟨0, _, 0, rfl, Nat.zero_le _, rfl, HR0.out⟩
 case round =>
 clear HR0
 obtain ⟨k, A, c, rfl, hk, rfl, hR⟩ := hrel
 have HR := Lib.hid hR; clear hR
 have xs : wr.cell? ⟨w.heap.size, 21, none⟩ = some (slV h.s) := HR.out.s.cell rfl
 have hsb := HSB.out
 by_cases hlt : k < h.s.2.1
 ·obtain ⟨b, off, eb, hbl, hcb⟩ := HROW.out.2.2 (show 0 < h.s.2.1 by omega)
  have hbw := HR.out.s.b
  have hr1 : wr.rangeAt b (off + k * 22) (qax L[k]!) := fun i u hu => qaC (hcb k hlt i u hu) hbw
  have xs' : wr.cell? ⟨w.heap.size, 21, none⟩ = some (.slice (some ⟨b, off, none⟩) h.s.2.1 h.s.2.2) := by rw [xs, ← eb]
  have HIHk := Lib.hid (HIH.out k (by rw [HLEN.out]; exact hlt) L[k]! wr _ ((HSUB.out k hlt).fr kRsOk (R' := (· < w.heap.size)) (Fr.of_below (own := []) hbw) (fun b _ h => ⟨by simp, h⟩)) (HOK.out k (by rw [HLEN.out]; exact hlt)))
  have hki : (k : Int) < (h.s.2.1 : Int) := by omega
  have hk0 : (0 : Int) ≤ (k : Int) := by omega
  clear hcb hbw xs eb
  generalize L[k]! = hj at *
  go_wp2_with (first
   | (apply qau 59; exact rfl; exact rfl; exact rfl; exact hr1; exact qbY; exact rfl; exact qbk)
   | fail)
  refine HIHk.out.mono ?_
  rintro e w6 ⟨⟨h6, rfl, ht6⟩, hb6⟩
  have HB6 := Lib.hid hb6; have HT6 := Lib.hid ht6
  clear hb6 ht6 HIHk hr1 xs'
  obtain ⟨Hs, hrow, hHl, hHt⟩ := HR.out.r
  have hb7 : Below w6.heap.size w6 (w6.alloc (.cells (qax h6).toArray 59)) := (Below.refl _ w6).alloc (Nat.le_refl _) _
  have HB7 := Lib.hid hb7
  have HX7 := Lib.hid (show (w6.alloc (.cells (qax h6).toArray 59)).rangeAt w6.heap.size 0 (qax h6) from qal (pre := []) (mid := qax h6) (post := []) (qab w6 _) (by simp) rfl)
  have HRW := Lib.hid hrow; have HHL := Lib.hid hHl; have HHT := Lib.hid hHt
  have HOW := Lib.hid (qcb hrow (HB6.out.trans (hb7.mono HB6.out.size)))
  have HSZ := Lib.hid (show w.heap.size + 2 ≤ (w6.alloc (.cells (qax h6).toArray 59)).heap.size from Nat.le_trans HR.out.s.s (Nat.le_trans HB6.out.size hb7.size))
  clear hrow hHl hHt hb7
  go_wp2_with (first
   | (at_builtin; refine qfa qiP HOW.out HHL.out h6 w6.heap.size rfl _ _ rfl ?hx8 ?hy8 HX7.out (by omega) HSZ.out ?hk8)
   | fail)
  (try case hx8 => rfl)
  (try case hy8 => rfl)
  case hk8 =>
  intro A8 c8 w8 hv8 hon8
  have HRN := Lib.hid (HR.out.step HB6.out HT6.out HB7.out HRW.out HHL.out HHT.out (by rw [List.flatMap_append, List.flatMap_singleton]; exact hv8) hon8)
  clear hv8 hon8 HR HB6 HT6 HB7 HX7 HRW HHL HHT HOW HSZ
  go_wp2_with fail
  go_roundw
  case rel => exact ⟨k + 1, A8, c8, by go_num, by omega, rfl, HRN.out⟩
  case measure => show h.s.2.1 - ((↑k + 1 : Int)).toNat < h.s.2.1 - (↑k : Int).toNat; omega
 ·have hkn : k = h.s.2.1 := by omega
  subst hkn
  obtain ⟨Hs, hrow, hHl, hHt⟩ := HR.out.r
  have hsz := HR.out.s.s
  have HS9 := Lib.hid (HR.out.s.set 21 (.slice A h.s.2.1 c))
  replace HS9 := Lib.hid (show CnSt w (wr.setCell ⟨w.heap.size, 21, none⟩ (.slice A h.s.2.1 c)) (qax ⟨h.n, (A0, h.d.2.1, c0), (A1, h.a.2.1, c1), (A2, h.m.2.1, c2), (A3, h.i.2.1, c3), (A, h.s.2.1, c)⟩).toArray rzRs 59 from HS9.out)
  have hf9 := qaE wr w.heap.size 21 (.slice A h.s.2.1 c)
  have hl9 := kRsOk.loc (R' := NfR (wr.setCell ⟨w.heap.size, 21, none⟩ (.slice A h.s.2.1 c)) (w.heap.size + 2)) HR.out.l hf9 (fun b _ h => ⟨by have := h.1.1; simp; omega, h.1.fr hf9 (by have := h.1.1; simp; omega) (Nat.le_refl _)⟩)
  have hr9 := qdV hrow hf9 (fun g hg => by rw [List.mem_singleton.1 hg]; omega)
  have ht9 : ∀ j, j < h.s.2.1 → RsAt (wr.setCell ⟨w.heap.size, 21, none⟩ (.slice A h.s.2.1 c)) (NfR (wr.setCell ⟨w.heap.size, 21, none⟩ (.slice A h.s.2.1 c)) (w.heap.size + 2)) Hs[j]! subs[j]! := fun j hj => (hHt j hj).fr kRsOk hf9 (fun b _ h => ⟨by have := h.1.1; simp; omega, h.1.fr hf9 (by have := h.1.1; simp; omega) (Nat.le_refl _)⟩)
  have z9 : wr.cell? ⟨w.heap.size, 21, none⟩ = some (slV h.s) := xs
  have f9 := HR.out.s.frz 21
  have HL9 := Lib.hid hl9; have HR9 := Lib.hid hr9; have HT9 := Lib.hid ht9; have HHL := Lib.hid hHl
  clear hl9 hr9 ht9 hf9 hrow hHl hHt hsz HR
  go_upto_region 11 with fail
  generalize wr.setCell ⟨w.heap.size, 21, none⟩ (.slice A h.s.2.1 c) = V9 at *
  clear xs z9 f9
  have gC : V9.heap[w.heap.size]? = some (.cells #[.int .i32 h.n.ty, .int .i32 h.n.co, .string h.n.path, .int .i64 h.n.q.a, .int .i64 h.n.q.b, .int .i64 h.n.q.c, .int .i64 h.n.q.d, .int .i32 h.n.q.e, .int .i32 h.n.q.f, .int .i32 h.n.q.g, .int .i64 h.n.q.h, .int .i32 h.n.q.i, .int .i32 h.n.q.j, .int .i64 h.n.q.k, .slice A0 h.d.2.1 c0, .slice A1 h.a.2.1 c1, .slice A2 h.m.2.1 c2, .int .i32 h.n.ct, .int .i64 h.n.si, .int .i32 h.n.st, .slice A3 h.i.2.1 c3, .slice A h.s.2.1 c] 59 (0, 0)) := HS9.out.c
  have gZ := HS9.out.z
  have hf := qaS V9 (w.heap.size + 1) (qax ⟨h.n, (A0, h.d.2.1, c0), (A1, h.a.2.1, c1), (A2, h.m.2.1, c2), (A3, h.i.2.1, c3), (A, h.s.2.1, c)⟩).toArray
  have hTR : RsAt (V9.setRow (w.heap.size + 1) (qax ⟨h.n, (A0, h.d.2.1, c0), (A1, h.a.2.1, c1), (A2, h.m.2.1, c2), (A3, h.i.2.1, c3), (A, h.s.2.1, c)⟩).toArray) (NfR (V9.setRow (w.heap.size + 1) (qax ⟨h.n, (A0, h.d.2.1, c0), (A1, h.a.2.1, c1), (A2, h.m.2.1, c2), (A3, h.i.2.1, c3), (A, h.s.2.1, c)⟩).toArray) w.heap.size) ⟨h.n, (A0, h.d.2.1, c0), (A1, h.a.2.1, c1), (A2, h.m.2.1, c2), (A3, h.i.2.1, c3), (A, h.s.2.1, c)⟩ (.mk v subs) := by
   have hmv : ∀ b, b < V9.heap.size → NfR V9 (w.heap.size + 2) b → b ∉ [w.heap.size + 1] ∧ NfR (V9.setRow (w.heap.size + 1) (qax ⟨h.n, (A0, h.d.2.1, c0), (A1, h.a.2.1, c1), (A2, h.m.2.1, c2), (A3, h.i.2.1, c3), (A, h.s.2.1, c)⟩).toArray) w.heap.size b := fun b _ h => by
    have hn : b ∉ [w.heap.size + 1] := by have := h.1; simp; omega
    exact ⟨hn, h.fr hf hn (by omega)⟩
   exact TrAt.of_subs (L := Hs) (kRsOk.loc HL9.out hf hmv) HLEN.out ((qfA HR9.out (fun _ => rfl) HHL.out).fr hf hmv (fun _ => by simp [qax])) (fun j hj => (HT9.out j hj).fr kRsOk hf hmv)
  have HTR := Lib.hid hTR
  have HBF := Lib.hid (below_setRow HS9.out.b (show w.heap.size ≤ w.heap.size + 1 by omega) (qax ⟨h.n, (A0, h.d.2.1, c0), (A1, h.a.2.1, c1), (A2, h.m.2.1, c2), (A3, h.i.2.1, c3), (A, h.s.2.1, c)⟩).toArray)
  clear hTR hf
  go_wp2_with (first
   | (apply qaw 59 59; exact rfl; exact rfl; exact rfl; (first | assumption | (refine qaa ?_; assumption) | (exact qab _ _) | (exact qae _ _ _) | (exact qag _ _ _ _) | (exact qas _ _ _ _ _) | (exact qaa (qab _ _)) | (exact qaa (qae _ _ _)) | (exact qaa (qag _ _ _ _)) | (exact qaa (qaa (qab _ _))) | (exact qaa (qaa (qae _ _ _))) | (exact qaa (qaa (qaa (qab _ _))))); exact qbY; exact rfl; exact qbk)
   | (apply qam 59 59; exact rfl; exact rfl; exact rfl; exact rfl; (first | assumption | (refine qaa ?_; assumption) | (exact qab _ _) | (exact qae _ _ _) | (exact qag _ _ _ _) | (exact qas _ _ _ _ _) | (exact qaa (qab _ _)) | (exact qaa (qae _ _ _)) | (exact qaa (qag _ _ _ _)) | (exact qaa (qaa (qab _ _))) | (exact qaa (qaa (qae _ _ _))) | (exact qaa (qaa (qaa (qab _ _))))); exact qbk; exact rfl; simp [Value.oneCell'])
   | fail)
  exact qaD rfl rfl (setRow_heap _ _ _ _ _ _ gZ) qbY rfl qbk rfl ⟨⟨_, rfl, HTR.out⟩, HBF.out⟩
open Go.RowKit Go.MapKept
def qiw (t : DlT) (w : World) (e : Ending) (w' : World) : Prop := (∃ h', e = .returned (dlV h') ∧ DlAt w' (NfR w' w.heap.size) h' t) ∧ Below w.heap.size w w'
theorem qgs (h : DlH) (t : DlT) (w : World) (R : Nat → Prop) (ht : DlAt w R h t) (hok : DlSm 1048576 t) : Calls Tryz.prog 72 #[dlV h] w (qiw t w) := by
 have HS := Lib.hid (CnSt.start w (rwDl h) rzDl 54)
 have HC := Lib.hid (fun (W : World) (hW : Below w.heap.size w W) => qge t.t h.t W _ (TrAt.fr kTxOk (R' := R) ht.2 (Fr.of_below (own := []) hW) (fun b _ h => ⟨by simp, h⟩)) hok.2)
 have HE := Lib.hid ht.1
 have r0 : ((w.alloc (.cells (rwDl h) 54)).alloc (.cells rzDl 54)).rangeAt w.heap.size 4 (qar h.t) := qal (pre := [.int .i64 h.se, .int .i32 h.xi, .int .i64 h.zx, .int .i64 h.ti]) (mid := qar h.t) (post := []) HS.out.c rfl rfl
 clear ht hok
 go_enter Tryz.func72, Tryz.ntmps72
 go_wp2_with (first
  | (apply qai 54 54; exact rfl; exact rfl; exact rfl; (first | (with_reducible rfl) | (exact sz1 _ _) | (exact sz2 _ _ _) | (exact sz3 _ _ _ _)); exact rfl; exact qbC; exact rfl; simp [Value.oneCell'])
  | (apply qau 52; exact rfl; exact rfl; exact rfl; assumption; exact qaF; exact rfl; exact qap)
  | fail)
 refine (HC.out _ HS.out.b).mono ?_
 generalize ((w.alloc (.cells (rwDl h) 54)).alloc (.cells rzDl 54)) = V0 at *
 rintro e w1 ⟨⟨h6, rfl, ht6⟩, hb⟩
 have HB1 := Lib.hid hb
 have HSZ := Lib.hid HS.out.s
 replace HS := Lib.hid (HS.out.call hb)
 have hth : w1.there w.heap.size 4 16 := qbT HS.out.c _ _ (Nat.le_refl _)
 have hF := qaB w1 w.heap.size 4 (qar h6)
 have gZ : (w1.setCells w.heap.size 4 (qar h6)).heap[w.heap.size + 1]? = some (.cells rzDl 54 (0, 0)) := (hF.block _ (by have := HS.out.s; omega) (by simp)).trans HS.out.z
 have hp : (w1.setCells w.heap.size 4 (qar h6)).rangeAt w.heap.size 0 [.int .i64 h.se, .int .i32 h.xi, .int .i64 h.zx, .int .i64 h.ti] := World.rangeAt_setCells_apart (qal (pre := []) (mid := [.int .i64 h.se, .int .i32 h.xi, .int .i64 h.zx, .int .i64 h.ti]) (post := [.int .i32 h.t.n.ty, .string h.t.n.path, slV h.t.d, slV h.t.a, .int .i64 h.t.n.ow, .int .i32 h.t.n.ve, .int .i32 h.t.n.cr, .bool h.t.n.qh, .int .i64 h.t.n.qc, .int .i64 h.t.n.qb, .int .i64 h.t.n.si, .int .i32 h.t.n.st, slV h.t.i, slV h.t.p, .int .i32 h.t.n.co, slV h.t.s]) HS.out.c rfl rfl) _ _ _ (.inr (.inl (by simp)))
 have hrr : (w1.setCells w.heap.size 4 (qar h6)).rangeAt w.heap.size 0 (qaU ⟨h.se, h.xi, h.zx, h.ti, h6⟩) := qca hp (World.rangeAt_setCells_same w1 w.heap.size 4 (qar h6) hth) rfl
 have ht7 : TxAt (w1.setCells w.heap.size 4 (qar h6)) (NfR (w1.setCells w.heap.size 4 (qar h6)) (w.heap.size + 2)) h6 t.t := TrAt.fr kTxOk ht6 hF (fun b _ h => by
  have hn : b ∉ [w.heap.size] := by have := HSZ.out; have := h.1; simp; omega
  exact ⟨hn, h.fr hF hn HSZ.out⟩)
 have HT7 := Lib.hid ht7; have HG := Lib.hid (And.intro (hF.below HS.out.b.size (by simp)) gZ)
 have HF := Lib.hid hF
 clear ht6 hb ht7 hp hF
 go_wp2_with (first
  | (apply qaW 52; exact rfl; exact rfl; exact rfl; exact rfl; assumption; exact qap; simp [Value.oneCell'])
  | (apply qau 54; exact rfl; exact rfl; exact rfl; assumption; exact qcn; exact rfl; exact qbC)
  | (apply qam 54 54; exact rfl; exact rfl; exact rfl; exact rfl; (first | assumption | (refine qaa ?_; assumption) | (exact qab _ _) | (exact qae _ _ _) | (exact qag _ _ _ _) | (exact qas _ _ _ _ _) | (exact qaa (qab _ _)) | (exact qaa (qae _ _ _)) | (exact qaa (qag _ _ _ _)) | (exact qaa (qaa (qab _ _))) | (exact qaa (qaa (qae _ _ _))) | (exact qaa (qaa (qaa (qab _ _))))); exact qbC; exact rfl; simp [Value.oneCell'])
  | fail)
 have hFr := qaS (w1.setCells w.heap.size 4 (qar h6)) (w.heap.size + 1) (qaU ⟨h.se, h.xi, h.zx, h.ti, h6⟩).toArray
 exact qaD rfl rfl (setRow_heap _ _ _ _ _ _ gZ) qcn rfl qbC rfl ⟨⟨⟨h.se, h.xi, h.zx, h.ti, h6⟩, rfl, ⟨HE.out, TrAt.fr kTxOk HT7.out hFr (fun b _ h => by
  have hn : b ∉ [w.heap.size + 1] := by have := h.1; simp; omega
  exact ⟨hn, h.fr hFr hn (by omega)⟩)⟩⟩, below_setRow (HS.out.b.trans HG.out.1) (by omega) _⟩
end Go.Proofs.YtbpmmmnphpkdjaaGreatDoor

/- The walk of the document's comparison of entries; bytes as a text. -/
import Derived.Test.YtbpmmmnphpkdjaaGreatDoorWQuoG
import Derived.Test.YtbpmmmnphpkdjaaGreatDoorWRgtP
import Derived.Lib.BufferRead
import Derived.Test.YtbpmmmnphpkdjaaGreatDoorWRfG
import Derived.Test.YtbpmmmnphpkdjaaGreatDoorWPlnD
import Derived.Test.YtbpmmmnphpkdjaaGreatDoorWQueB
import Derived.Test.YtbpmmmnphpkdjaaGreatDoorWNfc
namespace Go.Proofs.YtbpmmmnphpkdjaaGreatDoor
set_option linter.unusedSimpArgs false
set_option maxRecDepth 100000
set_option maxHeartbeats 20000000
open Go.RowKit
theorem qiz (A A' : Option Addr) (n m c c' : Nat) (xs ys : List AclV) (w : World) (B : Nat) (hx : Sl w B qao 3 A n xs) (hy : Sl w B qao 3 A' m ys) (hn : n ≤ 281474976710656) (hm : m ≤ 281474976710656) :
  Calls Tryz.prog 145 #[.slice A n c, .slice A' m c'] w (QuietB w (decide (xs = ys))) := by
 by_cases hnm : n = m
 ·subst hnm
  have hlen : xs.length = ys.length := hx.1.trans hy.1.symm
  have HL := Lib.hid hlen; have HXL := Lib.hid hx.1; clear hlen
  have hneq := qcJ
  go_enter Tryz.func145, Tryz.ntmps145
  go_wp2
  go_loopw [5] (fun i wr => ∃ (k q : Nat), i = .int .i64 ↑k ∧ k ≤ n ∧ (∀ j, j < k → xs[j]! = ys[j]!) ∧ wr = w.drewN q) (fun i _ => n - (intOf i).toNat)
  case atStart => exact ⟨0, 0, rfl, by omega, fun j hj => absurd hj (by omega), rfl⟩
  case round =>
   obtain ⟨k, q, rfl, hk, hall, rfl⟩ := hrel
   have HA := Lib.hid hall; clear hall
   by_cases hlt : k < n
   ·obtain ⟨b, off, rfl, _, x0, x1, x2⟩ := SlAcl.at_ hx hlt
    obtain ⟨b', off', rfl, _, y0, y1, y2⟩ := SlAcl.at_ hy hlt
    have hyl : k < ys.length := by have := hy.1; omega
    by_cases he : xs[k]! = ys[k]!
    ·have HA1 := Lib.hid (show ∀ j, j < k + 1 → xs[j]! = ys[j]! from fun j hj => by rcases Nat.lt_succ_iff_lt_or_eq.1 hj with h | rfl; exact HA.out j h; exact he)
     rw [he] at x0 x1 x2
     clear he
     generalize ys[k]! = y at *
     obtain ⟨p, s, t⟩ := y
     have hq := fun w : World => (qcJ w s t s t p p).trans (by simp : _ = Result.ok (.bool false) w)
     clear hneq
     go_wp2
     go_quiet (fail)
     go_wp2
     go_roundw
     case rel => exact ⟨k + 1, q + nq, by go_num, by omega, HA1.out, rfl⟩
     case measure => simp [intOf]; omega
    ·have HE := Lib.hid (show decide (xs = ys) = false from decide_eq_false fun e => he (by rw [e]))
     have hd : (!decide (xs[k]! = ys[k]!)) = true := by rw [decide_eq_false he]; rfl
     have HW := Lib.hid hd
     clear he hd
     generalize xs[k]! = x at *
     generalize ys[k]! = y at *
     obtain ⟨p, s, t⟩ := x
     obtain ⟨p', s', t'⟩ := y
     have hq := fun w : World => (qcJ w s t s' t' p p').trans (by rw [HW.out] : _ = Result.ok (.bool true) w)
     clear hneq
     go_wp2
     go_quiet (fail)
     go_wp2
     go_ret
     exact QuietB.mk ⟨q + nq, World.drewN_drewN ..⟩ HE.out.symm
   ·have HE := Lib.hid (show decide (xs = ys) = true from decide_eq_true (qbQ HL.out fun j hj => HA.out j (by have := HXL.out; omega)))
    go_wp2
    go_ret
    exact QuietB.mk ⟨q, rfl⟩ HE.out.symm
 ·have HE := Lib.hid (show decide (xs = ys) = false from decide_eq_false fun e => hnm (by rw [← hx.1, ← hy.1, e]))
  have hd : ((n : Int) != (m : Int)) = true := by simp; omega
  clear hnm
  go_enter Tryz.func145, Tryz.ntmps145
  go_wp2
  go_ret
  exact QuietB.mk ⟨0, rfl⟩ HE.out.symm

theorem qdY {w : World} {R : Nat → Prop} {A : Option Addr} {n c : Nat} {l : Bs} (h : SlR w R enc8 1 (A, n, c) l) : (convert 41 9 (.slice A n c)).run Tryz.prog w = .ok (.string ⟨l.toArray⟩) w := by
 cases A with
 | none =>
  obtain ⟨h1, h2⟩ := h.hd.1 rfl
  have h1' : n = 0 := h1; have h2' : c = 0 := h2
  subst h1' h2'
  have hl : l = [] := List.length_eq_zero_iff.1 h.len
  subst hl
  exact Lib.run_convert_nil_bytes w 41 9 5 0 Tryz.underlying41 Tryz.underlying5 Tryz.underlying9
 | some a =>
  have hl : l.length = n := h.len
  subst hl
  have hU1 := Tryz.underlying41; have hU2 := Tryz.underlying5; have hU3 := Tryz.underlying9
  by_cases h0 : 0 < l.length
  ·obtain ⟨b, off, e, _, hc⟩ := h.2.2 h0
   have e' : some a = some (⟨b, off, none⟩ : Addr) := e
   injection e' with e'
   subst e'
   refine run_convert_bytes_back w 41 9 5 ⟨b, off, none⟩ c l hU1 hU2 hU3 (fun j hj => ?_)
   have := hc j hj 0 (.int .u8 (l[j].toNat : Int)) (by rw [getElem!_pos l j hj]; rfl)
   rw [Addr.add_lit]
   simpa using this
  ·refine run_convert_bytes_back w 41 9 5 a c l hU1 hU2 hU3 (fun j hj => absurd hj (by omega))
open Go.RowKit Go.MapKept Go.Maps
theorem qoB (s t : ByteArray) (W : World) : (binOp .neq 155 (.agg #[.string s, .string t]) (.agg #[.string s, .string t])).run Tryz.prog W = .ok (.bool false) W := by
 go_simp
theorem qjN : ∀ (t : TxT) (ha hb : TxH) (w : World) (Ra Rb : Nat → Prop), TxAt w Ra ha t → TxAt w Rb hb t → TxOk 1048576 t → Calls Tryz.prog 115 #[txV ha, txV hb] w (RetB w true) := by
 refine Tr.ind ?_
 intro v subs ih ha hb w Ra Rb ta tb hok
 have hla := ta.loc; have hlb := tb.loc
 obtain ⟨La, hLa, hsa⟩ := ta.subs_at
 obtain ⟨Lb, hLb, hsb⟩ := tb.subs_at
 have hlena := ta.len; have hlenb := tb.len
 have hsm := hok.top
 have hn : hb.n = ha.n := hlb.1.symm.trans hla.1
 have hb0 : Below w.heap.size w ((w.alloc (.cells (rwTx ha) 52)).alloc (.cells #[.int .i32 ha.n.ty, .string ha.n.path, slV hb.d, slV hb.a, .int .i64 ha.n.ow, .int .i32 ha.n.ve, .int .i32 ha.n.cr, .bool ha.n.qh, .int .i64 ha.n.qc, .int .i64 ha.n.qb, .int .i64 ha.n.si, .int .i32 ha.n.st, slV hb.i, slV hb.p, .int .i32 ha.n.co, slV hb.s] 52)) := ((Below.refl _ w).alloc (Nat.le_refl _) _).alloc (by simp) _
 have HGA := Lib.hid (qaa (qab w (.cells (rwTx ha) 52)) : ((w.alloc (.cells (rwTx ha) 52)).alloc (.cells #[.int .i32 ha.n.ty, .string ha.n.path, slV hb.d, slV hb.a, .int .i64 ha.n.ow, .int .i32 ha.n.ve, .int .i32 ha.n.cr, .bool ha.n.qh, .int .i64 ha.n.qc, .int .i64 ha.n.qb, .int .i64 ha.n.si, .int .i32 ha.n.st, slV hb.i, slV hb.p, .int .i32 ha.n.co, slV hb.s] 52)).heap[w.heap.size]? = _)
 have HGB := Lib.hid (qae w (.cells (rwTx ha) 52) (.cells #[.int .i32 ha.n.ty, .string ha.n.path, slV hb.d, slV hb.a, .int .i64 ha.n.ow, .int .i32 ha.n.ve, .int .i32 ha.n.cr, .bool ha.n.qh, .int .i64 ha.n.qc, .int .i64 ha.n.qb, .int .i64 ha.n.si, .int .i32 ha.n.st, slV hb.i, slV hb.p, .int .i32 ha.n.co, slV hb.s] 52))
 have HSZ := Lib.hid (show w.heap.size + 2 ≤ ((w.alloc (.cells (rwTx ha) 52)).alloc (.cells #[.int .i32 ha.n.ty, .string ha.n.path, slV hb.d, slV hb.a, .int .i64 ha.n.ow, .int .i32 ha.n.ve, .int .i32 ha.n.cr, .bool ha.n.qh, .int .i64 ha.n.qc, .int .i64 ha.n.qb, .int .i64 ha.n.si, .int .i32 ha.n.st, slV hb.i, slV hb.p, .int .i32 ha.n.co, slV hb.s] 52)).heap.size from by simp)
 have HB := Lib.hid hb0
 have HEi := Lib.hid (show hb.i.2.1 = ha.i.2.1 from hlb.2.2.2.1.len.symm.trans hla.2.2.2.1.len)
 have HAi := Lib.hid (show Sl _ _ qaz 2 ha.i.1 ha.i.2.1 v.ids from (hla.2.2.2.1.sl (fun _ => by simp [qaz])).belowMore hb0 hb0.size)
 have HBi := Lib.hid (show Sl _ _ qaz 2 hb.i.1 hb.i.2.1 v.ids from (hlb.2.2.2.1.sl (fun _ => by simp [qaz])).belowMore hb0 hb0.size)
 have HMi := Lib.hid (show ha.i.2.1 ≤ 1048576 by have h1 := hsm.2.2.2.2.1; have h2 := hla.2.2.2.1.1; simp only [Tr.v, Tr.subs] at *; omega)
 have HEp := Lib.hid (show hb.p.2.1 = ha.p.2.1 from hlb.2.2.2.2.len.symm.trans hla.2.2.2.2.len)
 have HAp := Lib.hid (show Sl _ _ qay 1 ha.p.1 ha.p.2.1 v.paths from (hla.2.2.2.2.sl (fun _ => by simp [qay])).belowMore hb0 hb0.size)
 have HBp := Lib.hid (show Sl _ _ qay 1 hb.p.1 hb.p.2.1 v.paths from (hlb.2.2.2.2.sl (fun _ => by simp [qay])).belowMore hb0 hb0.size)
 have HMp := Lib.hid (show ha.p.2.1 ≤ 1048576 by have h1 := hsm.2.2.2.2.2.1; have h2 := hla.2.2.2.2.1; simp only [Tr.v, Tr.subs] at *; omega)
 have HEs := Lib.hid (show hb.s.2.1 = ha.s.2.1 from hlenb.symm.trans hlena)
 have HSL := Lib.hid (show subs.length = ha.s.2.1 from hlena)
 have HMs := Lib.hid (show ha.s.2.1 ≤ 1048576 by have h1 := hsm.2.2.2.2.2.2.1; rw [hlena] at h1; exact h1)
 have HRA := Lib.hid hLa; have HRB := Lib.hid hLb; have HSA := Lib.hid hsa; have HSB := Lib.hid hsb
 have HIH := Lib.hid ih; have HOK := Lib.hid (fun k (hk : k < subs.length) => hok.subAt (j := k) hk)
 have hca := fun (W : World) (hW : Below w.heap.size w W) => qdY (hla.2.1.fr (R' := fun _ => True) (Fr.of_below (own := []) hW) (fun b _ _ => ⟨by simp, trivial⟩) (fun _ => by simp [enc8]))
 have hcb := fun (W : World) (hW : Below w.heap.size w W) => qdY (hlb.2.1.fr (R' := fun _ => True) (Fr.of_below (own := []) hW) (fun b _ _ => ⟨by simp, trivial⟩) (fun _ => by simp [enc8]))
 have hcva := hca _ hb0; have hcvb := hcb _ hb0
 have HAC := Lib.hid (fun (W : World) (hW : Below w.heap.size w W) => show Calls Tryz.prog 145 #[slV ha.a, slV hb.a] W (QuietB W true) from (decide_eq_true (show v.acl = v.acl from rfl)) ▸ qiz ha.a.1 hb.a.1 ha.a.2.1 hb.a.2.1 ha.a.2.2 hb.a.2.2 v.acl v.acl W W.heap.size ((hla.2.2.1.sl (fun _ => by simp [qao])).belowMore hW hW.size) ((hlb.2.2.1.sl (fun _ => by simp [qao])).belowMore hW hW.size) (by have h1 := hsm.2.2.2.1; have h2 := hla.2.2.1.1; simp only [Tr.v, Tr.subs] at *; omega) (by have h1 := hsm.2.2.2.1; have h2 := hlb.2.2.1.1; simp only [Tr.v, Tr.subs] at *; omega))
 clear ta tb hla hlb hLa hLb hsa hsb hlena hlenb hsm ih hok hca hcb hb0
 unfold txV
 rw [hn]
 clear hn
 go_enter Tryz.func115, Tryz.ntmps115
 go_upto_region 1 with fail
 generalize (w.alloc (.cells (rwTx ha) 52)).alloc (.cells #[.int .i32 ha.n.ty, .string ha.n.path, slV hb.d, slV hb.a, .int .i64 ha.n.ow, .int .i32 ha.n.ve, .int .i32 ha.n.cr, .bool ha.n.qh, .int .i64 ha.n.qc, .int .i64 ha.n.qb, .int .i64 ha.n.si, .int .i32 ha.n.st, slV hb.i, slV hb.p, .int .i32 ha.n.co, slV hb.s] 52) = W at *
 generalize (Value.agg (rwTx ha)) = arg0 at *
 generalize (Value.agg #[.int .i32 ha.n.ty, .string ha.n.path, slV hb.d, slV hb.a, .int .i64 ha.n.ow, .int .i32 ha.n.ve, .int .i32 ha.n.cr, .bool ha.n.qh, .int .i64 ha.n.qc, .int .i64 ha.n.qb, .int .i64 ha.n.si, .int .i32 ha.n.st, slV hb.i, slV hb.p, .int .i32 ha.n.co, slV hb.s]) = arg1 at *
 have DA0 := Lib.hid (show ∀ V : World, Below W.heap.size W V → V.cell? ⟨w.heap.size, 0, none⟩ = some (.int .i32 ha.n.ty) from fun V hV => by rw [qaf ((hV.block _ (by have := HSZ.out; omega)).trans HGA.out)]; rfl)
 have DB0 := Lib.hid (show ∀ V : World, Below W.heap.size W V → V.cell? ⟨w.heap.size + 1, 0, none⟩ = some (.int .i32 ha.n.ty) from fun V hV => by rw [qaf ((hV.block _ (by have := HSZ.out; omega)).trans HGB.out)]; rfl)
 have xa0 := DA0.out W (Below.refl _ _); have xb0 := DB0.out W (Below.refl _ _)
 have DA1 := Lib.hid (show ∀ V : World, Below W.heap.size W V → V.cell? ⟨w.heap.size, 1, none⟩ = some (.string ha.n.path) from fun V hV => by rw [qaf ((hV.block _ (by have := HSZ.out; omega)).trans HGA.out)]; rfl)
 have DB1 := Lib.hid (show ∀ V : World, Below W.heap.size W V → V.cell? ⟨w.heap.size + 1, 1, none⟩ = some (.string ha.n.path) from fun V hV => by rw [qaf ((hV.block _ (by have := HSZ.out; omega)).trans HGB.out)]; rfl)
 have xa1 := DA1.out W (Below.refl _ _); have xb1 := DB1.out W (Below.refl _ _)
 have DA2 := Lib.hid (show ∀ V : World, Below W.heap.size W V → V.cell? ⟨w.heap.size, 2, none⟩ = some (slV ha.d) from fun V hV => by rw [qaf ((hV.block _ (by have := HSZ.out; omega)).trans HGA.out)]; rfl)
 have DB2 := Lib.hid (show ∀ V : World, Below W.heap.size W V → V.cell? ⟨w.heap.size + 1, 2, none⟩ = some (slV hb.d) from fun V hV => by rw [qaf ((hV.block _ (by have := HSZ.out; omega)).trans HGB.out)]; rfl)
 have xa2 := DA2.out W (Below.refl _ _); have xb2 := DB2.out W (Below.refl _ _)
 have DA3 := Lib.hid (show ∀ V : World, Below W.heap.size W V → V.cell? ⟨w.heap.size, 3, none⟩ = some (slV ha.a) from fun V hV => by rw [qaf ((hV.block _ (by have := HSZ.out; omega)).trans HGA.out)]; rfl)
 have DB3 := Lib.hid (show ∀ V : World, Below W.heap.size W V → V.cell? ⟨w.heap.size + 1, 3, none⟩ = some (slV hb.a) from fun V hV => by rw [qaf ((hV.block _ (by have := HSZ.out; omega)).trans HGB.out)]; rfl)
 have xa3 := DA3.out W (Below.refl _ _); have xb3 := DB3.out W (Below.refl _ _)
 have DA4 := Lib.hid (show ∀ V : World, Below W.heap.size W V → V.cell? ⟨w.heap.size, 4, none⟩ = some (.int .i64 ha.n.ow) from fun V hV => by rw [qaf ((hV.block _ (by have := HSZ.out; omega)).trans HGA.out)]; rfl)
 have DB4 := Lib.hid (show ∀ V : World, Below W.heap.size W V → V.cell? ⟨w.heap.size + 1, 4, none⟩ = some (.int .i64 ha.n.ow) from fun V hV => by rw [qaf ((hV.block _ (by have := HSZ.out; omega)).trans HGB.out)]; rfl)
 have xa4 := DA4.out W (Below.refl _ _); have xb4 := DB4.out W (Below.refl _ _)
 have DA5 := Lib.hid (show ∀ V : World, Below W.heap.size W V → V.cell? ⟨w.heap.size, 5, none⟩ = some (.int .i32 ha.n.ve) from fun V hV => by rw [qaf ((hV.block _ (by have := HSZ.out; omega)).trans HGA.out)]; rfl)
 have DB5 := Lib.hid (show ∀ V : World, Below W.heap.size W V → V.cell? ⟨w.heap.size + 1, 5, none⟩ = some (.int .i32 ha.n.ve) from fun V hV => by rw [qaf ((hV.block _ (by have := HSZ.out; omega)).trans HGB.out)]; rfl)
 have xa5 := DA5.out W (Below.refl _ _); have xb5 := DB5.out W (Below.refl _ _)
 have DA6 := Lib.hid (show ∀ V : World, Below W.heap.size W V → V.cell? ⟨w.heap.size, 6, none⟩ = some (.int .i32 ha.n.cr) from fun V hV => by rw [qaf ((hV.block _ (by have := HSZ.out; omega)).trans HGA.out)]; rfl)
 have DB6 := Lib.hid (show ∀ V : World, Below W.heap.size W V → V.cell? ⟨w.heap.size + 1, 6, none⟩ = some (.int .i32 ha.n.cr) from fun V hV => by rw [qaf ((hV.block _ (by have := HSZ.out; omega)).trans HGB.out)]; rfl)
 have xa6 := DA6.out W (Below.refl _ _); have xb6 := DB6.out W (Below.refl _ _)
 have DA7 := Lib.hid (show ∀ V : World, Below W.heap.size W V → V.cell? ⟨w.heap.size, 7, none⟩ = some (.bool ha.n.qh) from fun V hV => by rw [qaf ((hV.block _ (by have := HSZ.out; omega)).trans HGA.out)]; rfl)
 have DB7 := Lib.hid (show ∀ V : World, Below W.heap.size W V → V.cell? ⟨w.heap.size + 1, 7, none⟩ = some (.bool ha.n.qh) from fun V hV => by rw [qaf ((hV.block _ (by have := HSZ.out; omega)).trans HGB.out)]; rfl)
 have xa7 := DA7.out W (Below.refl _ _); have xb7 := DB7.out W (Below.refl _ _)
 have DA8 := Lib.hid (show ∀ V : World, Below W.heap.size W V → V.cell? ⟨w.heap.size, 8, none⟩ = some (.int .i64 ha.n.qc) from fun V hV => by rw [qaf ((hV.block _ (by have := HSZ.out; omega)).trans HGA.out)]; rfl)
 have DB8 := Lib.hid (show ∀ V : World, Below W.heap.size W V → V.cell? ⟨w.heap.size + 1, 8, none⟩ = some (.int .i64 ha.n.qc) from fun V hV => by rw [qaf ((hV.block _ (by have := HSZ.out; omega)).trans HGB.out)]; rfl)
 have xa8 := DA8.out W (Below.refl _ _); have xb8 := DB8.out W (Below.refl _ _)
 have DA9 := Lib.hid (show ∀ V : World, Below W.heap.size W V → V.cell? ⟨w.heap.size, 9, none⟩ = some (.int .i64 ha.n.qb) from fun V hV => by rw [qaf ((hV.block _ (by have := HSZ.out; omega)).trans HGA.out)]; rfl)
 have DB9 := Lib.hid (show ∀ V : World, Below W.heap.size W V → V.cell? ⟨w.heap.size + 1, 9, none⟩ = some (.int .i64 ha.n.qb) from fun V hV => by rw [qaf ((hV.block _ (by have := HSZ.out; omega)).trans HGB.out)]; rfl)
 have xa9 := DA9.out W (Below.refl _ _); have xb9 := DB9.out W (Below.refl _ _)
 have DA10 := Lib.hid (show ∀ V : World, Below W.heap.size W V → V.cell? ⟨w.heap.size, 10, none⟩ = some (.int .i64 ha.n.si) from fun V hV => by rw [qaf ((hV.block _ (by have := HSZ.out; omega)).trans HGA.out)]; rfl)
 have DB10 := Lib.hid (show ∀ V : World, Below W.heap.size W V → V.cell? ⟨w.heap.size + 1, 10, none⟩ = some (.int .i64 ha.n.si) from fun V hV => by rw [qaf ((hV.block _ (by have := HSZ.out; omega)).trans HGB.out)]; rfl)
 have xa10 := DA10.out W (Below.refl _ _); have xb10 := DB10.out W (Below.refl _ _)
 have DA11 := Lib.hid (show ∀ V : World, Below W.heap.size W V → V.cell? ⟨w.heap.size, 11, none⟩ = some (.int .i32 ha.n.st) from fun V hV => by rw [qaf ((hV.block _ (by have := HSZ.out; omega)).trans HGA.out)]; rfl)
 have DB11 := Lib.hid (show ∀ V : World, Below W.heap.size W V → V.cell? ⟨w.heap.size + 1, 11, none⟩ = some (.int .i32 ha.n.st) from fun V hV => by rw [qaf ((hV.block _ (by have := HSZ.out; omega)).trans HGB.out)]; rfl)
 have xa11 := DA11.out W (Below.refl _ _); have xb11 := DB11.out W (Below.refl _ _)
 have DA12 := Lib.hid (show ∀ V : World, Below W.heap.size W V → V.cell? ⟨w.heap.size, 12, none⟩ = some (slV ha.i) from fun V hV => by rw [qaf ((hV.block _ (by have := HSZ.out; omega)).trans HGA.out)]; rfl)
 have DB12 := Lib.hid (show ∀ V : World, Below W.heap.size W V → V.cell? ⟨w.heap.size + 1, 12, none⟩ = some (.slice hb.i.1 ha.i.2.1 hb.i.2.2) from fun V hV => by rw [qaf ((hV.block _ (by have := HSZ.out; omega)).trans HGB.out)]; show some (Value.slice hb.i.1 hb.i.2.1 hb.i.2.2) = _; rw [HEi.out])
 have xa12 := DA12.out W (Below.refl _ _); have xb12 := DB12.out W (Below.refl _ _)
 have DA13 := Lib.hid (show ∀ V : World, Below W.heap.size W V → V.cell? ⟨w.heap.size, 13, none⟩ = some (slV ha.p) from fun V hV => by rw [qaf ((hV.block _ (by have := HSZ.out; omega)).trans HGA.out)]; rfl)
 have DB13 := Lib.hid (show ∀ V : World, Below W.heap.size W V → V.cell? ⟨w.heap.size + 1, 13, none⟩ = some (.slice hb.p.1 ha.p.2.1 hb.p.2.2) from fun V hV => by rw [qaf ((hV.block _ (by have := HSZ.out; omega)).trans HGB.out)]; show some (Value.slice hb.p.1 hb.p.2.1 hb.p.2.2) = _; rw [HEp.out])
 have xa13 := DA13.out W (Below.refl _ _); have xb13 := DB13.out W (Below.refl _ _)
 have DA14 := Lib.hid (show ∀ V : World, Below W.heap.size W V → V.cell? ⟨w.heap.size, 14, none⟩ = some (.int .i32 ha.n.co) from fun V hV => by rw [qaf ((hV.block _ (by have := HSZ.out; omega)).trans HGA.out)]; rfl)
 have DB14 := Lib.hid (show ∀ V : World, Below W.heap.size W V → V.cell? ⟨w.heap.size + 1, 14, none⟩ = some (.int .i32 ha.n.co) from fun V hV => by rw [qaf ((hV.block _ (by have := HSZ.out; omega)).trans HGB.out)]; rfl)
 have xa14 := DA14.out W (Below.refl _ _); have xb14 := DB14.out W (Below.refl _ _)
 have DA15 := Lib.hid (show ∀ V : World, Below W.heap.size W V → V.cell? ⟨w.heap.size, 15, none⟩ = some (slV ha.s) from fun V hV => by rw [qaf ((hV.block _ (by have := HSZ.out; omega)).trans HGA.out)]; rfl)
 have DB15 := Lib.hid (show ∀ V : World, Below W.heap.size W V → V.cell? ⟨w.heap.size + 1, 15, none⟩ = some (.slice hb.s.1 ha.s.2.1 hb.s.2.2) from fun V hV => by rw [qaf ((hV.block _ (by have := HSZ.out; omega)).trans HGB.out)]; show some (Value.slice hb.s.1 hb.s.2.1 hb.s.2.2) = _; rw [HEs.out])
 have xa15 := DA15.out W (Below.refl _ _); have xb15 := DB15.out W (Below.refl _ _)
 go_wp2_with fail
 refine (HAC.out W HB.out).mono ?_
 rintro e w1 ⟨rfl, q1, rfl⟩
 have HV1 := Lib.hid (qbl W q1)
 clear xa0 xb0 xa1 xb1 xa2 xb2 xa3 xb3 xa4 xb4 xa5 xb5 xa6 xb6 xa7 xb7 xa8 xb8 xa9 xb9 xa10 xb10 xa11 xb11 xa12 xb12 xa13 xb13 xa14 xb14 xa15 xb15 hcva hcvb
 generalize W.drewN q1 = V1 at *
 have xa0 := DA0.out V1 HV1.out; have xb0 := DB0.out V1 HV1.out
 have xa1 := DA1.out V1 HV1.out; have xb1 := DB1.out V1 HV1.out
 have xa2 := DA2.out V1 HV1.out; have xb2 := DB2.out V1 HV1.out
 have xa3 := DA3.out V1 HV1.out; have xb3 := DB3.out V1 HV1.out
 have xa4 := DA4.out V1 HV1.out; have xb4 := DB4.out V1 HV1.out
 have xa5 := DA5.out V1 HV1.out; have xb5 := DB5.out V1 HV1.out
 have xa6 := DA6.out V1 HV1.out; have xb6 := DB6.out V1 HV1.out
 have xa7 := DA7.out V1 HV1.out; have xb7 := DB7.out V1 HV1.out
 have xa8 := DA8.out V1 HV1.out; have xb8 := DB8.out V1 HV1.out
 have xa9 := DA9.out V1 HV1.out; have xb9 := DB9.out V1 HV1.out
 have xa10 := DA10.out V1 HV1.out; have xb10 := DB10.out V1 HV1.out
 have xa11 := DA11.out V1 HV1.out; have xb11 := DB11.out V1 HV1.out
 have xa12 := DA12.out V1 HV1.out; have xb12 := DB12.out V1 HV1.out
 have xa13 := DA13.out V1 HV1.out; have xb13 := DB13.out V1 HV1.out
 have xa14 := DA14.out V1 HV1.out; have xb14 := DB14.out V1 HV1.out
 have xa15 := DA15.out V1 HV1.out; have xb15 := DB15.out V1 HV1.out
 go_upto_region 5 with fail
 clear xa0 xb0 xa1 xb1 xa2 xb2 xa3 xb3 xa4 xb4 xa5 xb5 xa6 xb6 xa7 xb7 xa8 xb8 xa9 xb9 xa10 xb10 xa11 xb11 xa14 xb14
 have hqid : ∀ (s t : ByteArray) (W : World), (binOp .neq 155 (.agg #[.string s, .string t]) (.agg #[.string s, .string t])).run Tryz.prog W = .ok (.bool false) W := qoB
 go_wp2_with fail
 go_loopw [5] (fun i wr => ∃ j q : Nat, i = .int .i64 ↑j ∧ j ≤ ha.i.2.1 ∧ wr = V1.drewN q) (fun i _ => ha.i.2.1 - (intOf i).toNat)
 case atStart => exact ⟨0, 0, rfl, Nat.zero_le _, rfl⟩
 case round =>
 obtain ⟨j, q, rfl, hj, rfl⟩ := hrel
 by_cases hlt : j < ha.i.2.1
 ·obtain ⟨b, off, ea, _, hca⟩ := HAi.out.cells hlt
  obtain ⟨b2, off2, eb, _, hcb⟩ := HBi.out.cells (by rw [HEi.out]; exact hlt)
  have ca0 : V1.cell? ⟨b, off + j * 2, none⟩ = some (.string v.ids[j]!.1) := by have := qaC (hca 0 _ rfl) HV1.out; simpa using this
  have cb0 : V1.cell? ⟨b2, off2 + j * 2, none⟩ = some (.string v.ids[j]!.1) := by have := qaC (hcb 0 _ rfl) HV1.out; simpa using this
  have ca1 : V1.cell? ⟨b, off + j * 2 + 1, none⟩ = some (.string v.ids[j]!.2) := by have := qaC (hca 1 _ rfl) HV1.out; simpa using this
  have cb1 : V1.cell? ⟨b2, off2 + j * 2 + 1, none⟩ = some (.string v.ids[j]!.2) := by have := qaC (hcb 1 _ rfl) HV1.out; simpa using this
  have ya : V1.cell? ⟨w.heap.size, 12, none⟩ = some (.slice (some ⟨b, off, none⟩) ha.i.2.1 ha.i.2.2) := by rw [xa12, ← ea]
  have yb : V1.cell? ⟨w.heap.size + 1, 12, none⟩ = some (.slice (some ⟨b2, off2, none⟩) ha.i.2.1 hb.i.2.2) := by rw [xb12, ← eb]
  have hji : (j : Int) < (ha.i.2.1 : Int) := by omega
  have hj0 : (0 : Int) ≤ (j : Int) := by omega
  have hmx := HMi.out
  clear hca hcb ea eb xa12 xb12
  generalize v.ids[j]!.1 = s0 at *
  generalize v.ids[j]!.2 = s1 at *
  go_wp2_with fail
  go_quiet (fail)
  go_wp2_with fail
  go_roundw
  case rel => exact ⟨j + 1, _, by go_num, by omega, by (try simp only [World.drewN_drewN]); rfl⟩
  case measure => simp [intOf]; omega
 obtain rfl : j = ha.i.2.1 := by omega
 go_wp2_with fail
 go_loopw [6] (fun i wr => ∃ j q : Nat, i = .int .i64 ↑j ∧ j ≤ ha.p.2.1 ∧ wr = V1.drewN q) (fun i _ => ha.p.2.1 - (intOf i).toNat)
 case atStart => exact ⟨0, q, rfl, Nat.zero_le _, rfl⟩
 case round =>
 obtain ⟨j, q, rfl, hj, rfl⟩ := hrel
 by_cases hlt : j < ha.p.2.1
 ·obtain ⟨b, off, ea, _, hca⟩ := HAp.out.cells hlt
  obtain ⟨b2, off2, eb, _, hcb⟩ := HBp.out.cells (by rw [HEp.out]; exact hlt)
  have ca0 : V1.cell? ⟨b, off + j, none⟩ = some (.string v.paths[j]!) := by have := qaC (hca 0 _ rfl) HV1.out; simpa using this
  have cb0 : V1.cell? ⟨b2, off2 + j, none⟩ = some (.string v.paths[j]!) := by have := qaC (hcb 0 _ rfl) HV1.out; simpa using this
  have ya : V1.cell? ⟨w.heap.size, 13, none⟩ = some (.slice (some ⟨b, off, none⟩) ha.p.2.1 ha.p.2.2) := by rw [xa13, ← ea]
  have yb : V1.cell? ⟨w.heap.size + 1, 13, none⟩ = some (.slice (some ⟨b2, off2, none⟩) ha.p.2.1 hb.p.2.2) := by rw [xb13, ← eb]
  have hji : (j : Int) < (ha.p.2.1 : Int) := by omega
  have hj0 : (0 : Int) ≤ (j : Int) := by omega
  have hmx := HMp.out
  clear hca hcb ea eb xa13 xb13
  generalize v.paths[j]! = s0 at *
  go_wp2_with fail
  go_quiet (fail)
  go_wp2_with fail
  go_roundw
  case rel => exact ⟨j + 1, _, by go_num, by omega, by (try simp only [World.drewN_drewN]); rfl⟩
  case measure => simp [intOf]; omega
 obtain rfl : j = ha.p.2.1 := by omega
 go_wp2_with fail
 go_loopw [7] (fun i wr => ∃ j : Nat, i = .int .i64 ↑j ∧ j ≤ ha.s.2.1 ∧ Below W.heap.size W wr) (fun i _ => ha.s.2.1 - (intOf i).toNat)
 case atStart => exact ⟨0, rfl, Nat.zero_le _, HV1.out.trans (qbl V1 _ |>.mono HV1.out.size)⟩
 case round =>
 clear xa12 xb12 xa13 xb13 xa15 xb15
 obtain ⟨j, rfl, hj, hbw⟩ := hrel
 have HBW := Lib.hid hbw; clear hbw
 have ya := DA15.out wr HBW.out; have yb := DB15.out wr HBW.out
 by_cases hlt : j < ha.s.2.1
 ·obtain ⟨b, off, ea, _, hca⟩ := HRA.out.2.2 (show 0 < ha.s.2.1 by omega)
  obtain ⟨b2, off2, eb, _, hcb⟩ := HRB.out.2.2 (show 0 < hb.s.2.1 by rw [HEs.out]; omega)
  have HBR := Lib.hid (HB.out.trans (HBW.out.mono HB.out.size))
  have HXA := Lib.hid (show ∀ V, Below w.heap.size w V → V.rangeAt b (off + j * 16) (qar La[j]!) from fun V hV i u hu => qaC (hca j hlt i u hu) hV)
  have HXB := Lib.hid (show ∀ V, Below w.heap.size w V → V.rangeAt b2 (off2 + j * 16) (qar Lb[j]!) from fun V hV i u hu => qaC (hcb j (by show j < hb.s.2.1; rw [HEs.out]; exact hlt) i u hu) hV)
  have HCL := Lib.hid (fun V (hV : Below w.heap.size w V) => HIH.out j (by rw [HSL.out]; exact hlt) La[j]! Lb[j]! V _ _ ((HSA.out j hlt).fr kTxOk (R' := fun _ => True) (Fr.of_below (own := []) hV) (fun b _ _ => ⟨by simp, trivial⟩)) ((HSB.out j (by show j < hb.s.2.1; rw [HEs.out]; exact hlt)).fr kTxOk (R' := fun _ => True) (Fr.of_below (own := []) hV) (fun b _ _ => ⟨by simp, trivial⟩)) (HOK.out j (by rw [HSL.out]; exact hlt)))
  have hji : (j : Int) < (ha.s.2.1 : Int) := by omega
  have hj0 : (0 : Int) ≤ (j : Int) := by omega
  have hmx := HMs.out
  clear hca hcb
  generalize La[j]! = xa at *
  generalize Lb[j]! = xb at *
  have HSS := Lib.hid (fun (V : World) (hV : Below wr.heap.size wr V) => (show V.cell? ⟨w.heap.size, 15, none⟩ = some (.slice (some ⟨b, off, none⟩) ha.s.2.1 ha.s.2.2) ∧ V.cell? ⟨w.heap.size + 1, 15, none⟩ = some (.slice (some ⟨b2, off2, none⟩) ha.s.2.1 hb.s.2.2) ∧ V.rangeAt b (off + j * 16) [.int .i32 xa.n.ty, .string xa.n.path, slV xa.d, slV xa.a, .int .i64 xa.n.ow, .int .i32 xa.n.ve, .int .i32 xa.n.cr, .bool xa.n.qh, .int .i64 xa.n.qc, .int .i64 xa.n.qb, .int .i64 xa.n.si, .int .i32 xa.n.st, slV xa.i, slV xa.p, .int .i32 xa.n.co, slV xa.s] ∧ V.rangeAt b2 (off2 + j * 16) [.int .i32 xb.n.ty, .string xb.n.path, slV xb.d, slV xb.a, .int .i64 xb.n.ow, .int .i32 xb.n.ve, .int .i32 xb.n.cr, .bool xb.n.qh, .int .i64 xb.n.qc, .int .i64 xb.n.qb, .int .i64 xb.n.si, .int .i32 xb.n.st, slV xb.i, slV xb.p, .int .i32 xb.n.co, slV xb.s] from ⟨by rw [qaC ya hV, ← ea], by rw [qaC yb hV, ← eb], HXA.out V (HBR.out.trans (hV.mono HBR.out.size)), HXB.out V (HBR.out.trans (hV.mono HBR.out.size))⟩))
  clear HXA HXB
  go_upto_region 18 with fail
  clear ya yb ea eb
  refine qaP (S := fun V => V.cell? ⟨w.heap.size, 15, none⟩ = some (.slice (some ⟨b, off, none⟩) ha.s.2.1 ha.s.2.2) ∧ V.cell? ⟨w.heap.size + 1, 15, none⟩ = some (.slice (some ⟨b2, off2, none⟩) ha.s.2.1 hb.s.2.2) ∧ V.rangeAt b (off + j * 16) [.int .i32 xa.n.ty, .string xa.n.path, slV xa.d, slV xa.a, .int .i64 xa.n.ow, .int .i32 xa.n.ve, .int .i32 xa.n.cr, .bool xa.n.qh, .int .i64 xa.n.qc, .int .i64 xa.n.qb, .int .i64 xa.n.si, .int .i32 xa.n.st, slV xa.i, slV xa.p, .int .i32 xa.n.co, slV xa.s] ∧ V.rangeAt b2 (off2 + j * 16) [.int .i32 xb.n.ty, .string xb.n.path, slV xb.d, slV xb.a, .int .i64 xb.n.ow, .int .i32 xb.n.ve, .int .i32 xb.n.cr, .bool xb.n.qh, .int .i64 xb.n.qc, .int .i64 xb.n.qb, .int .i64 xb.n.si, .int .i32 xb.n.st, slV xb.i, slV xb.p, .int .i32 xb.n.co, slV xb.s]) 12 (by kernel_rfl) (HSS.out _ (qaj wr)) (fun hHeld => ?_)
  have HBD := Lib.hid (qaj wr)
  have HB2 := Lib.hid (HBR.out.trans (HBD.out.mono HBR.out.size))
  have HB3 := Lib.hid (HBW.out.trans (HBD.out.mono HBW.out.size))
  generalize wr.drew = V0 at *
  refine qad (i := 0) (v := .pointer (some ⟨w.heap.size, 15, none⟩)) rfl (by kernel_rfl) (fun _ _ _ h => h) (Or.inl ⟨by rfl, by intro w hSw; clear hSw; go_simp⟩) (by assumption) ?_
  (try simp only [pT])
  refine qad (i := 1) (v := .slice (some ⟨b, off, none⟩) ha.s.2.1 ha.s.2.2) rfl (by kernel_rfl) (fun _ _ _ h => h) (Or.inl ⟨by rfl, by intro w hSw; obtain ⟨hSw, -⟩ := hSw; go_simp⟩) (by assumption) ?_
  (try simp only [pT])
  refine qad (i := 2) (v := .int .i64 ↑j) rfl (by kernel_rfl) (fun _ _ _ h => h) (Or.inl ⟨by rfl, by intro w hSw; clear hSw; go_simp⟩) (by assumption) ?_
  (try simp only [pT])
  refine qad (i := 3) (v := .pointer (some ⟨b, off + j * 16, none⟩)) rfl (by kernel_rfl) (fun _ _ _ h => h) (Or.inl ⟨by rfl, by intro w hSw; clear hSw; go_simp⟩) (by assumption) ?_
  (try simp only [pT])
  refine qad (i := 4) (v := .agg (rwTx xa)) rfl (by kernel_rfl) (fun _ _ _ h => h) (yieldsIf_load_mid (by rfl) 52 _ rfl b (off + j * 16) rfl [.int .i32 xa.n.ty, .string xa.n.path, slV xa.d, slV xa.a, .int .i64 xa.n.ow, .int .i32 xa.n.ve, .int .i32 xa.n.cr, .bool xa.n.qh, .int .i64 xa.n.qc, .int .i64 xa.n.qb, .int .i64 xa.n.si, .int .i32 xa.n.st, slV xa.i, slV xa.p, .int .i32 xa.n.co, slV xa.s] _ (fun _ h => h.2.2.1) qaF rfl qap) (by assumption) ?_
  (try simp only [pT])
  refine qad (i := 5) (v := .pointer (some ⟨w.heap.size + 1, 15, none⟩)) rfl (by kernel_rfl) (fun _ _ _ h => h) (Or.inl ⟨by rfl, by intro w hSw; clear hSw; go_simp⟩) (by assumption) ?_
  (try simp only [pT])
  refine qad (i := 6) (v := .slice (some ⟨b2, off2, none⟩) ha.s.2.1 hb.s.2.2) rfl (by kernel_rfl) (fun _ _ _ h => h) (Or.inl ⟨by rfl, by intro w hSw; obtain ⟨-, hSw, -⟩ := hSw; go_simp⟩) (by assumption) ?_
  (try simp only [pT])
  refine qad (i := 7) (v := .int .i64 ↑j) rfl (by kernel_rfl) (fun _ _ _ h => h) (Or.inl ⟨by rfl, by intro w hSw; clear hSw; go_simp⟩) (by assumption) ?_
  (try simp only [pT])
  refine qad (i := 8) (v := .pointer (some ⟨b2, off2 + j * 16, none⟩)) rfl (by kernel_rfl) (fun _ _ _ h => h) (Or.inl ⟨by rfl, by intro w hSw; clear hSw; go_simp⟩) (by assumption) ?_
  (try simp only [pT])
  refine qad (i := 9) (v := .agg (rwTx xb)) rfl (by kernel_rfl) (fun _ _ _ h => h) (yieldsIf_load_mid (by rfl) 52 _ rfl b2 (off2 + j * 16) rfl [.int .i32 xb.n.ty, .string xb.n.path, slV xb.d, slV xb.a, .int .i64 xb.n.ow, .int .i32 xb.n.ve, .int .i32 xb.n.cr, .bool xb.n.qh, .int .i64 xb.n.qc, .int .i64 xb.n.qb, .int .i64 xb.n.si, .int .i32 xb.n.st, slV xb.i, slV xb.p, .int .i32 xb.n.co, slV xb.s] _ (fun _ h => h.2.2.2) qaF rfl qap) (by assumption) ?_
  (try simp only [pT])
  refine qaq (i := 10) rfl (by kernel_rfl) (fun K hK => ?_)
  go_simp
  refine (HCL.out V0 HB2.out).mono ?_
  rintro e w5 ⟨rfl, hb5⟩
  dsimp only
  have hh2 := HSS.out _ (HBD.out.trans (hb5.mono HBD.out.size))
  refine hK.out _ _ hh2 ?_
  have HB5 := Lib.hid (HB3.out.trans (hb5.mono HB3.out.size))
  clear hK K hb5 HB3 HB2 HBD hHeld HCL HSS
  (try simp only [pT])
  refine qaq (i := 11) rfl (by kernel_rfl) (fun K hK => ?_)
  go_simp
  refine hK.out _ _ hh2 ?_
  clear hK K hh2
  (try simp only [pT])
  refine qaG (n := 12) (by kernel_rfl) ?_
  simp only [List.drop_succ_cons, List.drop_zero]
  go_wp2_with fail
  go_roundw
  case rel => exact ⟨j + 1, by go_num, by omega, HB5.out⟩
  case measure => simp [intOf]; omega
 obtain rfl : j = ha.s.2.1 := by omega
 go_wp2_with fail
 go_ret
 exact RetB.mk (HB.out.trans (HBW.out.mono HB.out.size)) rfl
open Go.RowKit
open Classical in
theorem qiO (i tm : Int) (A : Option Addr) (n c : Nat) (l : List IdV) (i2 t2 : Int) (A2 : Option Addr) (n2 c2 : Nat) (l2 : List IdV) (w : World) (hz : Sl w w.heap.size qaz 2 A n l) (hz2 : Sl w w.heap.size qaz 2 A2 n2 l2) (hn : n ≤ 1048576) :
  Calls Tryz.prog 55 #[.agg #[.int .i64 i, .int .i32 tm, .slice A n c], .agg #[.int .i64 i2, .int .i32 t2, .slice A2 n2 c2]] w (RetB w (decide ((i, tm, l) = (i2, t2, l2)))) := by
 have hb1 : Below w.heap.size w (w.alloc (.cells #[.int .i64 i, .int .i32 tm, .slice A n c] 47)) := (Below.refl _ w).alloc (Nat.le_refl _) _
 have hb0 : Below w.heap.size w ((w.alloc (.cells #[.int .i64 i, .int .i32 tm, .slice A n c] 47)).alloc (.cells #[.int .i64 i2, .int .i32 t2, .slice A2 n2 c2] 47)) := hb1.alloc hb1.size _
 have h0 : ((w.alloc (.cells #[.int .i64 i, .int .i32 tm, .slice A n c] 47)).alloc (.cells #[.int .i64 i2, .int .i32 t2, .slice A2 n2 c2] 47)).heap[w.heap.size]? = some (.cells #[.int .i64 i, .int .i32 tm, .slice A n c] 47 (0, 0)) :=
  ((Below.refl _ _).alloc (Nat.le_refl _) _ |>.block w.heap.size (by simp)).trans (heap_alloc_new w _)
 have h1 : ((w.alloc (.cells #[.int .i64 i, .int .i32 tm, .slice A n c] 47)).alloc (.cells #[.int .i64 i2, .int .i32 t2, .slice A2 n2 c2] 47)).heap[w.heap.size + 1]? = some (.cells #[.int .i64 i2, .int .i32 t2, .slice A2 n2 c2] 47 (0, 0)) := by
  have := heap_alloc_new (w.alloc (.cells #[.int .i64 i, .int .i32 tm, .slice A n c] 47)) (.cells #[.int .i64 i2, .int .i32 t2, .slice A2 n2 c2] 47)
  rwa [World.size_alloc] at this
 have y0 : ((w.alloc (.cells #[.int .i64 i, .int .i32 tm, .slice A n c] 47)).alloc (.cells #[.int .i64 i2, .int .i32 t2, .slice A2 n2 c2] 47)).cell? ⟨w.heap.size, 0, none⟩ = some (.int .i64 i) := by rw [qaf h0]; rfl
 have y1 : ((w.alloc (.cells #[.int .i64 i, .int .i32 tm, .slice A n c] 47)).alloc (.cells #[.int .i64 i2, .int .i32 t2, .slice A2 n2 c2] 47)).cell? ⟨w.heap.size, 1, none⟩ = some (.int .i32 tm) := by rw [qaf h0]; rfl
 have y2 : ((w.alloc (.cells #[.int .i64 i, .int .i32 tm, .slice A n c] 47)).alloc (.cells #[.int .i64 i2, .int .i32 t2, .slice A2 n2 c2] 47)).cell? ⟨w.heap.size, 2, none⟩ = some (.slice A n c) := by rw [qaf h0]; rfl
 have x0 : ((w.alloc (.cells #[.int .i64 i, .int .i32 tm, .slice A n c] 47)).alloc (.cells #[.int .i64 i2, .int .i32 t2, .slice A2 n2 c2] 47)).cell? ⟨w.heap.size + 1, 0, none⟩ = some (.int .i64 i2) := by rw [qaf h1]; rfl
 have x1 : ((w.alloc (.cells #[.int .i64 i, .int .i32 tm, .slice A n c] 47)).alloc (.cells #[.int .i64 i2, .int .i32 t2, .slice A2 n2 c2] 47)).cell? ⟨w.heap.size + 1, 1, none⟩ = some (.int .i32 t2) := by rw [qaf h1]; rfl
 have x2 : ((w.alloc (.cells #[.int .i64 i, .int .i32 tm, .slice A n c] 47)).alloc (.cells #[.int .i64 i2, .int .i32 t2, .slice A2 n2 c2] 47)).cell? ⟨w.heap.size + 1, 2, none⟩ = some (.slice A2 n2 c2) := by rw [qaf h1]; rfl
 have HZ := Lib.hid (hz.below hb0); have HZ2 := Lib.hid (hz2.below hb0); have HB := Lib.hid hb0
 have hlen := hz.len; have hlen2 := hz2.len
 clear hz hz2 h0 h1 hb1 hb0
 by_cases hall : i = i2 ∧ tm = t2 ∧ n = n2
 ·obtain ⟨e1, e2, e3⟩ := hall
  subst e1 e2 e3
  have hxl : (n : Int) ≤ 1048576 := by omega
  have HXL := Lib.hid hlen; have HYL := Lib.hid hlen2
  clear hlen hlen2
  obtain ⟨bb, HBB⟩ : ∃ bb, Hid (decide ((i, tm, l) = (i, tm, l2)) = bb) := ⟨_, Lib.hid rfl⟩
  rw [HBB.out]
  go_enter Tryz.func55, Tryz.ntmps55
  go_wp2_with fail
  generalize ((w.alloc (.cells #[.int .i64 i, .int .i32 tm, .slice A n c] 47)).alloc (.cells #[.int .i64 i, .int .i32 tm, .slice A2 n c2] 47)) = W at *
  go_loopw [5] (fun j wr => ∃ (k q : Nat), j = .int .i64 ↑k ∧ k ≤ n ∧ (∀ j, j < k → l[j]! = l2[j]!) ∧ wr = W.drewN q) (fun j _ => n - (intOf j).toNat)
  case atStart => exact ⟨0, 0, rfl, by omega, fun j hj => absurd hj (by omega), rfl⟩
  case round =>
   obtain ⟨k, q, rfl, hk, hall, rfl⟩ := hrel
   have HA := Lib.hid hall; clear hall
   by_cases hlt : k < n
   ·obtain ⟨b, off, hA, _, p0, p1⟩ := SlId.at_ HZ.out hlt
    obtain ⟨b', off', hA', _, r0, r1⟩ := SlId.at_ HZ2.out hlt
    have hk2 : ((k : Nat) : Int) < (n : Int) := by omega
    subst hA hA'
    have HWW := Lib.hid (And.intro HZ HZ2)
    clear HZ HZ2
    by_cases he : l[k]! = l2[k]!
    ·have HA1 := Lib.hid (show ∀ j, j < k + 1 → l[j]! = l2[j]! from fun j hj => by rcases Nat.lt_succ_iff_lt_or_eq.1 hj with h | rfl; exact HA.out j h; exact he)
     rw [he] at p0 p1
     clear he
     generalize l2[k]! = y at *
     obtain ⟨s, t⟩ := y
     have hq := fun w : World => (qfC w s t s t).trans (by simp : _ = Result.ok (.bool false) w)
     go_wp2
     go_quiet (fail)
     go_wp2
     go_roundw
     case rel => exact ⟨k + 1, q + nq, by go_num, by omega, HA1.out, by first | rfl | rw [World.drewN_drewN]⟩
     case measure => simp [intOf]; omega
    ·have HE := Lib.hid (show decide ((i, tm, l) = (i, tm, l2)) = false from decide_eq_false fun e => he (by
      injection e with e1 e2
      injection e2 with e2 e3
      rw [e3]))
     have hd : (!decide (l[k]! = l2[k]!)) = true := by rw [decide_eq_false he]; rfl
     have HW := Lib.hid hd
     clear he hd
     generalize l[k]! = x at *
     generalize l2[k]! = y at *
     obtain ⟨s, t⟩ := x
     obtain ⟨s', t'⟩ := y
     have hq := fun w : World => (qfC w s t s' t').trans (by rw [HW.out] : _ = Result.ok (.bool true) w)
     go_wp2
     go_quiet (fail)
     go_wp2
     go_ret
     exact RetB.mk (qac (qac HB.out q) nq) (HE.out.symm.trans HBB.out)
   ·have hk2 : ¬ ((k : Nat) : Int) < (n : Int) := by omega
    have HE := Lib.hid (show decide ((i, tm, l) = (i, tm, l2)) = true from decide_eq_true (by
     have hll : l = l2 := qbQ (by rw [HXL.out, HYL.out]) fun j hj => HA.out j (by have := HXL.out; omega)
     rw [hll]))
    go_wp2
    go_ret
    exact RetB.mk (qac HB.out q) (HE.out.symm.trans HBB.out)
 ·have HF := Lib.hid (show decide ((i, tm, l) = (i2, t2, l2)) = false from decide_eq_false fun e => hall (by
   injection e with e1 e2
   injection e2 with e2 e3
   exact ⟨e1, e2, by rw [← hlen, ← hlen2, e3]⟩))
  have hd : (i != i2) = true ∨ ((i != i2) = false ∧ (tm != t2) = true) ∨ ((i != i2) = false ∧ (tm != t2) = false ∧ ((n : Int) != (n2 : Int)) = true) := by
   by_cases e1 : i = i2
   ·by_cases e2 : tm = t2
    ·refine .inr (.inr ⟨by simpa using e1, by simpa using e2, bne_iff_ne.2 fun e3 => hall ⟨e1, e2, by omega⟩⟩)
    ·exact .inr (.inl ⟨by simpa using e1, by simpa using e2⟩)
   ·exact .inl (by simpa using e1)
  clear hall hlen hlen2
  rcases hd with hd1 | ⟨hd1, hd2⟩ | ⟨hd1, hd2, hd3⟩
  all_goals (
   go_enter Tryz.func55, Tryz.ntmps55
   go_wp2_with fail
   go_ret
   exact RetB.mk HB.out HF.out.symm)
open Go.RowKit Go.MapKept Go.Maps
def qnx (t : TxT) (w : World) (e : Ending) (w' : World) : Prop := (∃ h', e = .returned (txV h') ∧ TxAt w' (w.heap.size ≤ ·) h' t ∧ TxNf w' (w.heap.size ≤ ·) h') ∧ Below w.heap.size w w'
/-- the loop's state, and that the rows may be written -/
structure ClRN (w : World) (h' : TxH) (v : TxF) (subs : List TxT) (n gs hi : Nat) (Z : Array Value) (k : Nat) (wr : World) : Prop extends ClR w h' v subs n gs hi Z k wr where
 nd : SlN wr (fun b => w.heap.size + 2 ≤ b ∧ b ≠ gs) 1 h'.d
 np : SlN wr (fun b => w.heap.size + 2 ≤ b ∧ b ≠ gs) 1 h'.p
theorem ClRN.step {w : World} {h' : TxH} {v : TxF} {subs : List TxT} {n gs hi : Nat} {Z : Array Value} {k : Nat} {wr w2 : World} (H : ClRN w h' v subs n gs hi Z k wr) (hb : Below wr.heap.size wr w2) {hh : TxH} (ht : TxAt w2 (wr.heap.size ≤ ·) hh subs[k]!) (hk : k < n) (hgs : gs < hi) (hB : w.heap.size + 2 ≤ gs) :
  ClRN w h' v subs n gs hi Z (k + 1) (w2.setCells gs (k * 16) (qar hh)) where
 toClR := H.toClR.step hb ht hk hgs hB
 nd := (H.nd.later hb (by decide)).fr (qaB w2 gs (k * 16) (qar hh)) (fun b _ h => ⟨by simpa using h.2, h⟩) (by decide)
 np := (H.np.later hb (by decide)).fr (qaB w2 gs (k * 16) (qar hh)) (fun b _ h => ⟨by simpa using h.2, h⟩) (by decide)
theorem qiJ : ∀ (t : TxT) (h : TxH) (w : World) (R : Nat → Prop), TxAt w R h t → TxOk 1048576 t → Calls Tryz.prog 140 #[txV h] w (qnx t w) := by
 refine Tr.ind ?_
 intro v subs ih h w R ht0 hok
 have ht : TxAt w (· < w.heap.size) h (.mk v subs) := ht0.more (fun b hb _ => hb)
 have hl := ht.loc
 obtain ⟨L, hL, hsub⟩ := ht.subs_at
 have hlen := ht.len
 have hsm := hok.top
 have hb1 : Below w.heap.size w ((w.alloc (.cells (rwTx h) 52)).alloc (.cells rzTx 52)) := ((Below.refl _ w).alloc (Nat.le_refl _) _).alloc (by simp) _
 have HS := Lib.hid (CnSt.start w (rwTx h) rzTx 52)
 have HCd := Lib.hid (fun (W : World) (hW : Below w.heap.size w W) => qem h.d.1 h.d.2.1 h.d.2.2 v.data W ((hl.2.1.sl (fun _ => by simp [enc8])).belowMore hW hW.size) hl.2.1.hd.1 (by have h1 := hsm.2.2.1; have h2 := hl.2.1.1; simp only [Tr.v, Tr.subs] at *; omega))
 have HLd := Lib.hid hl.2.1.len
 have HCa := Lib.hid (fun (W : World) (hW : Below w.heap.size w W) => qcF h.a.1 h.a.2.1 h.a.2.2 v.acl W ((hl.2.2.1.sl (fun _ => by simp [qao])).belowMore hW hW.size) hl.2.2.1.hd.1 (by have h1 := hsm.2.2.2.1; have h2 := hl.2.2.1.1; simp only [Tr.v, Tr.subs] at *; omega))
 have HLa := Lib.hid hl.2.2.1.len
 have HCi := Lib.hid (fun (W : World) (hW : Below w.heap.size w W) => qcK h.i.1 h.i.2.1 h.i.2.2 v.ids W ((hl.2.2.2.1.sl (fun _ => by simp [qaz])).belowMore hW hW.size) hl.2.2.2.1.hd.1 (by have h1 := hsm.2.2.2.2.1; have h2 := hl.2.2.2.1.1; simp only [Tr.v, Tr.subs] at *; omega))
 have HLi := Lib.hid hl.2.2.2.1.len
 have HCp := Lib.hid (fun (W : World) (hW : Below w.heap.size w W) => qcO h.p.1 h.p.2.1 h.p.2.2 v.paths W ((hl.2.2.2.2.sl (fun _ => by simp [qay])).belowMore hW hW.size) hl.2.2.2.2.hd.1 (by have h1 := hsm.2.2.2.2.2.1; have h2 := hl.2.2.2.2.1; simp only [Tr.v, Tr.subs] at *; omega))
 have HLp := Lib.hid hl.2.2.2.2.len
 have HCs := Lib.hid (fun (W : World) (hW : Below w.heap.size w W) => qfg h.s.1 h.s.2.1 h.s.2.2 L W ((hL.sl (fun _ => by simp [qar])).belowMore hW hW.size) hL.hd.1 (Nat.le_trans (show h.s.2.1 ≤ 1048576 by have h1 := hsm.2.2.2.2.2.2.1; rw [hlen] at h1; exact h1) (by omega)))
 have HLs := Lib.hid hL.len
 have HSUB := Lib.hid hsub; have HLEN := Lib.hid (show subs.length = h.s.2.1 from hlen); have HN := Lib.hid hl.1
 have HIH := Lib.hid (fun (j : Nat) (_ : j < subs.length) => qfB subs[j]!); have HOK := Lib.hid (fun k (hk : k < subs.length) => hok.subAt (j := k) hk)
 have HSB := Lib.hid (show h.s.2.1 ≤ 1048576 by have h1 := hsm.2.2.2.2.2.2.1; rw [hlen] at h1; exact h1)
 have HB := Lib.hid hb1
 clear ht0 ht hl hL hsub hlen hsm hb1 ih hok
 go_enter Tryz.func140, Tryz.ntmps140
 go_wp2_with (first
  | (apply qai 52 52; exact rfl; exact rfl; exact rfl; (first | (with_reducible rfl) | (exact sz1 _ _) | (exact sz2 _ _ _) | (exact sz3 _ _ _ _)); exact rfl; exact qap; exact rfl; simp [Value.oneCell'])
  | fail)
 refine (HCd.out _ HS.out.b).mono ?_
 generalize ((w.alloc (.cells (rwTx h) 52)).alloc (.cells rzTx 52)) = V0 at *
 rintro e w0 ⟨⟨A0, c0, rfl, hr⟩, hb⟩
 have HRd := Lib.hid hr; have HSZ0 := Lib.hid (show w.heap.size + 2 ≤ V0.heap.size from HS.out.s); have HBX0 := Lib.hid hb
 replace HRd := Lib.hid (CloneP.slr hr (fun _ => rfl) HLd.out HSZ0.out)
 have HNd := Lib.hid (SlN.own hr HSZ0.out)
 replace HS := Lib.hid (HS.out.call hb)
 have z0 := HS.out.cell (i := 2) (v := slV h.d) rfl
 have f0 := HS.out.frz 2
 have y0 := HS.out.cell (i := 3) (v := slV h.a) rfl
 clear hr hb
 go_wp2_with fail
 replace HS := Lib.hid (HS.out.set 2 (.slice A0 h.d.2.1 c0))
 replace HS := Lib.hid (show CnSt w (w0.setCell ⟨w.heap.size, 2, none⟩ (.slice A0 h.d.2.1 c0)) #[.int .i32 h.n.ty, .string h.n.path, .slice A0 h.d.2.1 c0, slV h.a, .int .i64 h.n.ow, .int .i32 h.n.ve, .int .i32 h.n.cr, .bool h.n.qh, .int .i64 h.n.qc, .int .i64 h.n.qb, .int .i64 h.n.si, .int .i32 h.n.st, slV h.i, slV h.p, .int .i32 h.n.co, slV h.s] _ _ from HS.out)
 replace HRd := Lib.hid (HRd.out.put (fun _ => by simp [enc8]) 2 (.slice A0 h.d.2.1 c0))
 replace HNd := Lib.hid (HNd.out.put (by decide) 2 (.slice A0 h.d.2.1 c0))
 generalize w0.setCell ⟨w.heap.size, 2, none⟩ (.slice A0 h.d.2.1 c0) = V1 at *
 clear z0 f0 y0 HSZ0 HBX0
 refine (HCa.out _ HS.out.b).mono ?_
 rintro e w1 ⟨⟨A1, c1, rfl, hr⟩, hb⟩
 have HRa := Lib.hid hr; have HSZ1 := Lib.hid (show w.heap.size + 2 ≤ V1.heap.size from HS.out.s); have HBX1 := Lib.hid hb
 replace HRd := Lib.hid (HRd.out.later hb (fun _ => by simp [enc8]))
 replace HNd := Lib.hid (HNd.out.later hb (by decide))
 replace HRa := Lib.hid (CloneP.slr hr (fun _ => rfl) HLa.out HSZ1.out)
 replace HS := Lib.hid (HS.out.call hb)
 have z1 := HS.out.cell (i := 3) (v := slV h.a) rfl
 have f1 := HS.out.frz 3
 have y1 := HS.out.cell (i := 12) (v := slV h.i) rfl
 clear hr hb
 go_wp2_with fail
 replace HS := Lib.hid (HS.out.set 3 (.slice A1 h.a.2.1 c1))
 replace HS := Lib.hid (show CnSt w (w1.setCell ⟨w.heap.size, 3, none⟩ (.slice A1 h.a.2.1 c1)) #[.int .i32 h.n.ty, .string h.n.path, .slice A0 h.d.2.1 c0, .slice A1 h.a.2.1 c1, .int .i64 h.n.ow, .int .i32 h.n.ve, .int .i32 h.n.cr, .bool h.n.qh, .int .i64 h.n.qc, .int .i64 h.n.qb, .int .i64 h.n.si, .int .i32 h.n.st, slV h.i, slV h.p, .int .i32 h.n.co, slV h.s] _ _ from HS.out)
 replace HRd := Lib.hid (HRd.out.put (fun _ => by simp [enc8]) 3 (.slice A1 h.a.2.1 c1))
 replace HNd := Lib.hid (HNd.out.put (by decide) 3 (.slice A1 h.a.2.1 c1))
 replace HRa := Lib.hid (HRa.out.put (fun _ => by simp [qao]) 3 (.slice A1 h.a.2.1 c1))
 generalize w1.setCell ⟨w.heap.size, 3, none⟩ (.slice A1 h.a.2.1 c1) = V2 at *
 clear z1 f1 y1 HSZ1 HBX1
 refine (HCi.out _ HS.out.b).mono ?_
 rintro e w2 ⟨⟨A2, c2, rfl, hr⟩, hb⟩
 have HRi := Lib.hid hr; have HSZ2 := Lib.hid (show w.heap.size + 2 ≤ V2.heap.size from HS.out.s); have HBX2 := Lib.hid hb
 replace HRd := Lib.hid (HRd.out.later hb (fun _ => by simp [enc8]))
 replace HNd := Lib.hid (HNd.out.later hb (by decide))
 replace HRa := Lib.hid (HRa.out.later hb (fun _ => by simp [qao]))
 replace HRi := Lib.hid (CloneP.slr hr (fun _ => rfl) HLi.out HSZ2.out)
 replace HS := Lib.hid (HS.out.call hb)
 have z2 := HS.out.cell (i := 12) (v := slV h.i) rfl
 have f2 := HS.out.frz 12
 have y2 := HS.out.cell (i := 13) (v := slV h.p) rfl
 clear hr hb
 go_wp2_with fail
 replace HS := Lib.hid (HS.out.set 12 (.slice A2 h.i.2.1 c2))
 replace HS := Lib.hid (show CnSt w (w2.setCell ⟨w.heap.size, 12, none⟩ (.slice A2 h.i.2.1 c2)) #[.int .i32 h.n.ty, .string h.n.path, .slice A0 h.d.2.1 c0, .slice A1 h.a.2.1 c1, .int .i64 h.n.ow, .int .i32 h.n.ve, .int .i32 h.n.cr, .bool h.n.qh, .int .i64 h.n.qc, .int .i64 h.n.qb, .int .i64 h.n.si, .int .i32 h.n.st, .slice A2 h.i.2.1 c2, slV h.p, .int .i32 h.n.co, slV h.s] _ _ from HS.out)
 replace HRd := Lib.hid (HRd.out.put (fun _ => by simp [enc8]) 12 (.slice A2 h.i.2.1 c2))
 replace HNd := Lib.hid (HNd.out.put (by decide) 12 (.slice A2 h.i.2.1 c2))
 replace HRa := Lib.hid (HRa.out.put (fun _ => by simp [qao]) 12 (.slice A2 h.i.2.1 c2))
 replace HRi := Lib.hid (HRi.out.put (fun _ => by simp [qaz]) 12 (.slice A2 h.i.2.1 c2))
 generalize w2.setCell ⟨w.heap.size, 12, none⟩ (.slice A2 h.i.2.1 c2) = V3 at *
 clear z2 f2 y2 HSZ2 HBX2
 refine (HCp.out _ HS.out.b).mono ?_
 rintro e w3 ⟨⟨A3, c3, rfl, hr⟩, hb⟩
 have HRp := Lib.hid hr; have HSZ3 := Lib.hid (show w.heap.size + 2 ≤ V3.heap.size from HS.out.s); have HBX3 := Lib.hid hb
 replace HRd := Lib.hid (HRd.out.later hb (fun _ => by simp [enc8]))
 replace HNd := Lib.hid (HNd.out.later hb (by decide))
 replace HRa := Lib.hid (HRa.out.later hb (fun _ => by simp [qao]))
 replace HRi := Lib.hid (HRi.out.later hb (fun _ => by simp [qaz]))
 replace HRp := Lib.hid (CloneP.slr hr (fun _ => rfl) HLp.out HSZ3.out)
 have HNp := Lib.hid (SlN.own hr HSZ3.out)
 replace HS := Lib.hid (HS.out.call hb)
 have z3 := HS.out.cell (i := 13) (v := slV h.p) rfl
 have f3 := HS.out.frz 13
 have y3 := HS.out.cell (i := 15) (v := slV h.s) rfl
 clear hr hb
 go_wp2_with fail
 replace HS := Lib.hid (HS.out.set 13 (.slice A3 h.p.2.1 c3))
 replace HS := Lib.hid (show CnSt w (w3.setCell ⟨w.heap.size, 13, none⟩ (.slice A3 h.p.2.1 c3)) #[.int .i32 h.n.ty, .string h.n.path, .slice A0 h.d.2.1 c0, .slice A1 h.a.2.1 c1, .int .i64 h.n.ow, .int .i32 h.n.ve, .int .i32 h.n.cr, .bool h.n.qh, .int .i64 h.n.qc, .int .i64 h.n.qb, .int .i64 h.n.si, .int .i32 h.n.st, .slice A2 h.i.2.1 c2, .slice A3 h.p.2.1 c3, .int .i32 h.n.co, slV h.s] _ _ from HS.out)
 replace HRd := Lib.hid (HRd.out.put (fun _ => by simp [enc8]) 13 (.slice A3 h.p.2.1 c3))
 replace HNd := Lib.hid (HNd.out.put (by decide) 13 (.slice A3 h.p.2.1 c3))
 replace HRa := Lib.hid (HRa.out.put (fun _ => by simp [qao]) 13 (.slice A3 h.p.2.1 c3))
 replace HRi := Lib.hid (HRi.out.put (fun _ => by simp [qaz]) 13 (.slice A3 h.p.2.1 c3))
 replace HRp := Lib.hid (HRp.out.put (fun _ => by simp [qay]) 13 (.slice A3 h.p.2.1 c3))
 replace HNp := Lib.hid (HNp.out.put (by decide) 13 (.slice A3 h.p.2.1 c3))
 generalize w3.setCell ⟨w.heap.size, 13, none⟩ (.slice A3 h.p.2.1 c3) = V4 at *
 clear z3 f3 y3 HSZ3 HBX3
 refine (HCs.out _ HS.out.b).mono ?_
 rintro e w4 ⟨⟨A4, c4, rfl, hr⟩, hb⟩
 have HRs := Lib.hid hr; have HSZ4 := Lib.hid (show w.heap.size + 2 ≤ V4.heap.size from HS.out.s); have HBX4 := Lib.hid hb
 replace HRd := Lib.hid (HRd.out.fr (R' := fun b => w.heap.size + 2 ≤ b ∧ b < V4.heap.size) (Fr.of_below (own := []) hb) (fun b hlt h => ⟨by simp, h, hlt⟩) (fun _ => by simp [enc8]))
 replace HNd := Lib.hid (HNd.out.fr (R' := fun b => w.heap.size + 2 ≤ b ∧ b < V4.heap.size) (Fr.of_below (own := []) hb) (fun b hlt h => ⟨by simp, h, hlt⟩) (by decide))
 replace HRa := Lib.hid (HRa.out.fr (R' := fun b => w.heap.size + 2 ≤ b ∧ b < V4.heap.size) (Fr.of_below (own := []) hb) (fun b hlt h => ⟨by simp, h, hlt⟩) (fun _ => by simp [qao]))
 replace HRi := Lib.hid (HRi.out.fr (R' := fun b => w.heap.size + 2 ≤ b ∧ b < V4.heap.size) (Fr.of_below (own := []) hb) (fun b hlt h => ⟨by simp, h, hlt⟩) (fun _ => by simp [qaz]))
 replace HRp := Lib.hid (HRp.out.fr (R' := fun b => w.heap.size + 2 ≤ b ∧ b < V4.heap.size) (Fr.of_below (own := []) hb) (fun b hlt h => ⟨by simp, h, hlt⟩) (fun _ => by simp [qay]))
 replace HNp := Lib.hid (HNp.out.fr (R' := fun b => w.heap.size + 2 ≤ b ∧ b < V4.heap.size) (Fr.of_below (own := []) hb) (fun b hlt h => ⟨by simp, h, hlt⟩) (by decide))
 replace HS := Lib.hid (HS.out.call hb)
 have z4 := HS.out.cell (i := 15) (v := slV h.s) rfl
 have f4 := HS.out.frz 15
 clear hr hb
 go_wp2_with fail
 obtain ⟨hA, hnc, gs, hgs, hgA, hst⟩ := ClSt.start kTxOk (B := w.heap.size) (subs := subs) HRs.out HLs.out (fun j hj => (HSUB.out j hj).fr kTxOk (Fr.of_below (own := []) HS.out.b) (fun b hlt _ => ⟨by simp, hlt⟩))
 have hst' := hst.other kTxOk (qaE w4 w.heap.size 15 (.slice A4 h.s.2.1 c4)) (World.there_setCells hst.th w.heap.size 15 [.slice A4 h.s.2.1 c4]) (by have := HSZ4.out; simp; omega) (fun g hg => by have := HS.out.s; simp at hg; omega)
 have HR0 := Lib.hid (show ClRN w ⟨h.n, (A0, h.d.2.1, c0), (A1, h.a.2.1, c1), (A2, h.i.2.1, c2), (A3, h.p.2.1, c3), (A4, h.s.2.1, c4)⟩ v subs h.s.2.1 gs w4.heap.size _ 0 (w4.setCell ⟨w.heap.size, 15, none⟩ (.slice A4 h.s.2.1 c4)) from
  ⟨⟨HS.out.set 15 _, ⟨HN.out, HRd.out.fr (qaE _ _ _ _) (fun b _ h => ⟨by simp; omega, h.1, by have := HBX4.out.size; omega⟩) (fun _ => by simp [enc8]), HRa.out.fr (qaE _ _ _ _) (fun b _ h => ⟨by simp; omega, h.1, by omega⟩) (fun _ => by simp [qao]), HRi.out.fr (qaE _ _ _ _) (fun b _ h => ⟨by simp; omega, h.1, by omega⟩) (fun _ => by simp [qaz]), HRp.out.fr (qaE _ _ _ _) (fun b _ h => ⟨by simp; omega, h.1, by omega⟩) (fun _ => by simp [qay])⟩, hst', (qaE w4 w.heap.size 15 _).size⟩, HNd.out.fr (qaE _ _ _ _) (fun b _ h => ⟨by simp; omega, h.1, by omega⟩) (by decide), HNp.out.fr (qaE _ _ _ _) (fun b _ h => ⟨by simp; omega, h.1, by omega⟩) (by decide)⟩)
 have HA := Lib.hid (And.intro hA (And.intro hnc hgA)); have HGS := Lib.hid (show w.heap.size + 2 ≤ gs from Nat.le_trans HSZ4.out hgs); have HHI := Lib.hid (show 0 < h.s.2.1 → gs < w4.heap.size from fun h0 => (hgA h0).2)
 clear hA hnc hgs hgA hst hst' HNd HNp HRd HRa HRi HRp HRs HCd HCa HCi HCp HCs HLd HLa HLi HLp HLs z4 f4 HS HSUB HB
 generalize w4.setCell ⟨w.heap.size, 15, none⟩ (.slice A4 h.s.2.1 c4) = V5 at *
 have HSH := Lib.hid (show w.heap.size + 2 ≤ w4.heap.size from Nat.le_trans HSZ4.out HBX4.out.size)
 clear HBX4 HSZ4
 generalize w4.heap.size = hi at *
 go_loopw [30] (fun i wr => ∃ k : Nat, i = .int .i64 ↑k ∧ k ≤ h.s.2.1 ∧ ClRN w ⟨h.n, (A0, h.d.2.1, c0), (A1, h.a.2.1, c1), (A2, h.i.2.1, c2), (A3, h.p.2.1, c3), (A4, h.s.2.1, c4)⟩ v subs h.s.2.1 gs hi rzTx k wr) (fun i _ => h.s.2.1 - (RowKit.intOf i).toNat)
 case atStart => exact ⟨0, rfl, Nat.zero_le _, HR0.out⟩
 case round =>
  obtain ⟨k, rfl, hk, hR⟩ := hrel
  have hsb := HSB.out
  by_cases hlt : k < h.s.2.1
  ·have hA4 := (HA.out.2.2 (by omega)).1
   have hb9 : Below wr.heap.size wr wr := Below.refl _ _
   obtain ⟨hh, hr, htk⟩ := hR.r.old k (Nat.le_refl _) hlt
   have HIHk := Lib.hid (fun (W : World) (hW : Below wr.heap.size wr W) => HIH.out k (by rw [HLEN.out]; exact hlt) hh W _ (htk.fr kTxOk (Fr.of_below (own := []) hW) (fun b hb h => ⟨by simp, h⟩)) (HOK.out k (by rw [HLEN.out]; exact hlt)))
   have HR := Lib.hid hR
   have x15 : wr.cell? ⟨w.heap.size, 15, none⟩ = some (.slice A4 h.s.2.1 c4) := hR.s.cell rfl
   have HLT := Lib.hid hlt
   subst hA4
   obtain ⟨W9, HW9⟩ : ∃ W9 : World, Hid (W9 = wr.alloc (.cells (rwTx hh) 52)) := ⟨_, Lib.hid rfl⟩
   have hbw : Below wr.heap.size wr W9 := HW9.out ▸ (Below.refl _ wr).alloc (Nat.le_refl _) _
   have hg9 : W9.heap[wr.heap.size]? = some (.cells (rwTx hh) 52 (0, 0)) := HW9.out ▸ heap_alloc_new wr _
   have HSO := Lib.hid (fun (W : World) (hW : Below W9.heap.size W9 W) => And.intro (hbw.trans (hW.mono hbw.size)) (And.intro (qaC x15 (hbw.trans (hW.mono hbw.size))) (qbf (qal (pre := []) (mid := qar hh) (post := []) hg9 rfl rfl) hW)))
   have S0 := HSO.out W9 (Below.refl _ _)
   clear hR x15 htk hbw hg9
   go_wp2_with (first
    | (apply qau 52; exact rfl; exact rfl; exact rfl; assumption; exact qaF; exact rfl; exact qap)
    | (apply qai 52 52; exact rfl; exact rfl; exact rfl; (first | (with_reducible rfl) | (exact sz1 _ _) | (exact sz2 _ _ _) | (exact sz3 _ _ _ _)); exact rfl; exact qap; exact rfl; simp [Value.oneCell'])
    | fail)
   rw [← HW9.out]
   refine wp_region_held_drew (S := fun w' => w'.cell? ⟨w.heap.size, 15, none⟩ = some (.slice (some ⟨gs, 0, none⟩) h.s.2.1 c4) ∧ w'.rangeAt wr.heap.size 0 (qar hh)) (by kernel_rfl) (HSO.out _ (qaj _)).2 (fun hHeld => ?_)
   refine wpAnyH_take (i := 0) (v := .pointer (some ⟨w.heap.size, 15, none⟩)) rfl (by kernel_rfl) (by kernel_rfl) (by kernel_rfl) (fun _ _ _ h => h) (Or.inl ⟨by rfl, by intro w hSw; clear hSw; go_simp⟩) (by assumption) ?_
   simp only [Act.put, List.setIfInBounds_toArray, List.set_cons_zero, List.set_cons_succ]
   refine wpAnyH_take (i := 1) (v := .slice (some ⟨gs, 0, none⟩) h.s.2.1 c4) rfl (by kernel_rfl) (by kernel_rfl) (by kernel_rfl) (fun _ _ _ h => h) (Or.inl ⟨by rfl, by intro w hSw; obtain ⟨hSw, _⟩ := hSw; go_simp⟩) (by assumption) ?_
   simp only [Act.put, List.setIfInBounds_toArray, List.set_cons_zero, List.set_cons_succ]
   refine wpAnyH_take (i := 2) (v := .int .i64 ↑k) rfl (by kernel_rfl) (by kernel_rfl) (by kernel_rfl) (fun _ _ _ h => h) (Or.inl ⟨by rfl, by intro w hSw; clear hSw; go_simp⟩) (by assumption) ?_
   simp only [Act.put, List.setIfInBounds_toArray, List.set_cons_zero, List.set_cons_succ]
   refine wpAnyH_take (i := 3) (v := .agg (qar hh).toArray) rfl (by kernel_rfl) (by kernel_rfl) (by kernel_rfl) (fun _ _ _ h => h) (yieldsIf_load_mid (by rfl) 52 _ rfl wr.heap.size 0 rfl (qar hh) _ (fun _ h => h.2) qaF rfl qap) (by assumption) ?_
   simp only [Act.put, List.setIfInBounds_toArray, List.set_cons_zero, List.set_cons_succ]
   refine wpAnyH_ready (rs := [4]) (by kernel_rfl) (by simp) (AllReadyH.cons rfl (fun K hK => ?_) AllReadyH.nil)
   go_simp
   refine (HIHk.out _ (HSO.out _ (qaj _)).1).mono ?_
   rintro e w6 ⟨⟨h6, rfl, ht6⟩, hb6⟩
   dsimp only
   refine hK.out _ _ (HSO.out _ ((qaj _).trans (hb6.mono (qaj _).size))).2 (fun hHeld2 => ?_)
   clear hK K
   refine wpAnyH_take (i := 5) (v := .pointer (some ⟨gs, k * 16, none⟩)) rfl (by kernel_rfl) (by kernel_rfl) (by kernel_rfl) (fun _ _ _ h => h) (Or.inl ⟨by rfl, by intro w hSw; clear hSw; go_simp⟩) (by assumption) ?_
   simp only [Act.put, List.setIfInBounds_toArray, List.set_cons_zero, List.set_cons_succ]
   refine wpAnyH_ready (rs := [6]) (by kernel_rfl) (by simp) (AllReadyH.cons rfl (fun K hK => ?_) AllReadyH.nil)
   rw [if_pos (by rfl)]
   have hbA := (HSO.out _ (qaj _)).1.trans (hb6.mono (HSO.out _ (qaj _)).1.size)
   have hth := HR.out.r.there_row hlt
   refine wp_store_mid 52 _ _ rfl gs (k * 16) (qar h6).toArray rfl rfl (qck hth hbA) qap (qna h6) ?_
   simp only [Act.put, List.setIfInBounds_toArray, List.set_cons_zero, List.set_cons_succ]
   have hFC := qaB w6 gs (k * 16) (qar h6)
   refine hK.out _ _ ⟨?_, ?_⟩ (fun hHeld3 => ?_)
   ·have h1 := HR.out.s.s; have h2 := HGS.out
    exact (hFC.cell (p := ⟨w.heap.size, 15, none⟩) (by have := hbA.size; simp only; omega) (by simp; omega)).trans hHeld2.1
   ·have h1 := HHI.out (by omega); have h2 := HR.out.hi
    exact World.rangeAt_setCells_apart hHeld2.2 _ _ _ (.inl (by omega))
   clear hK K
   refine wpAnyH_done (by kernel_rfl) ?_ _
   have HX := Lib.hid (HR.out.step hbA (hh := h6) (TrAt.fr kTxOk ht6 (Fr.refl [] w6) (fun b _ h => ⟨by simp, Nat.le_trans (HSO.out _ (qaj _)).1.size h⟩)) hlt (HHI.out (by omega)) HGS.out)
   have hlk := HLT.out
   clear hFC hth hbA hHeld3 hHeld2 hHeld HR HSO HR0 ht6 hb6
   (try dsimp only [List.getElem_toArray, List.getElem_cons_succ, List.getElem_cons_zero])
   go_wp2_with fail
   go_roundw
   case rel => exact ⟨k + 1, by go_num, by omega, HX.out⟩
   case measure => show h.s.2.1 - ((↑k + 1 : Int)).toNat < h.s.2.1 - (↑k : Int).toNat; omega
  ·have hkn : k = h.s.2.1 := by omega
   subst hkn
   have gC : wr.heap[w.heap.size]? = some (.cells #[.int .i32 h.n.ty, .string h.n.path, .slice A0 h.d.2.1 c0, .slice A1 h.a.2.1 c1, .int .i64 h.n.ow, .int .i32 h.n.ve, .int .i32 h.n.cr, .bool h.n.qh, .int .i64 h.n.qc, .int .i64 h.n.qb, .int .i64 h.n.si, .int .i32 h.n.st, .slice A2 h.i.2.1 c2, .slice A3 h.p.2.1 c3, .int .i32 h.n.co, .slice A4 h.s.2.1 c4] 52 (0, 0)) := hR.s.c
   have gZ := hR.s.z
   have HF := Lib.hid (qaS wr (w.heap.size + 1) (qar ⟨h.n, (A0, h.d.2.1, c0), (A1, h.a.2.1, c1), (A2, h.i.2.1, c2), (A3, h.p.2.1, c3), (A4, h.s.2.1, c4)⟩).toArray)
   have HTH := Lib.hid (hR.r.other kTxOk HF.out (qbp hR.r.th HF.out (by have := HGS.out; simp; omega)) (by have := HGS.out; simp; omega) (fun g hg => by have := HSH.out; simp at hg; omega))
   have HR := Lib.hid hR
   clear hR HR0
   go_wp2_with (first
    | (apply qaw 52 52; exact rfl; exact rfl; exact rfl; (first | assumption | (refine qaa ?_; assumption) | (exact qab _ _) | (exact qae _ _ _) | (exact qag _ _ _ _) | (exact qas _ _ _ _ _) | (exact qaa (qab _ _)) | (exact qaa (qae _ _ _)) | (exact qaa (qag _ _ _ _)) | (exact qaa (qaa (qab _ _))) | (exact qaa (qaa (qae _ _ _))) | (exact qaa (qaa (qaa (qab _ _))))); exact qaF; exact rfl; exact qap)
    | (apply qam 52 52; exact rfl; exact rfl; exact rfl; exact rfl; (first | assumption | (refine qaa ?_; assumption) | (exact qab _ _) | (exact qae _ _ _) | (exact qag _ _ _ _) | (exact qas _ _ _ _ _) | (exact qaa (qab _ _)) | (exact qaa (qae _ _ _)) | (exact qaa (qag _ _ _ _)) | (exact qaa (qaa (qab _ _))) | (exact qaa (qaa (qae _ _ _))) | (exact qaa (qaa (qaa (qab _ _))))); exact qap; exact rfl; simp [Value.oneCell'])
    | fail)
   have hTR : TxAt (wr.setRow (w.heap.size + 1) (qar ⟨h.n, (A0, h.d.2.1, c0), (A1, h.a.2.1, c1), (A2, h.i.2.1, c2), (A3, h.p.2.1, c3), (A4, h.s.2.1, c4)⟩).toArray) (w.heap.size ≤ ·) ⟨h.n, (A0, h.d.2.1, c0), (A1, h.a.2.1, c1), (A2, h.i.2.1, c2), (A3, h.p.2.1, c3), (A4, h.s.2.1, c4)⟩ (.mk v subs) :=
    HTH.out.tree kTxOk (kTxOk.loc HR.out.l HF.out (fun b _ h => ⟨by simp; omega, by omega⟩)) HLEN.out rfl ⟨HA.out.1, HA.out.2.1⟩ (fun h0 => ⟨(HA.out.2.2 h0).1, by have := HGS.out; omega⟩) (fun b hb => by have := HSH.out; omega)
   have hNF : TxNf (wr.setRow (w.heap.size + 1) (qar ⟨h.n, (A0, h.d.2.1, c0), (A1, h.a.2.1, c1), (A2, h.i.2.1, c2), (A3, h.p.2.1, c3), (A4, h.s.2.1, c4)⟩).toArray) (w.heap.size ≤ ·) ⟨h.n, (A0, h.d.2.1, c0), (A1, h.a.2.1, c1), (A2, h.i.2.1, c2), (A3, h.p.2.1, c3), (A4, h.s.2.1, c4)⟩ :=
    ⟨HR.out.nd.fr HF.out (fun b _ h => ⟨by simp; omega, by omega⟩) (by decide), HR.out.np.fr HF.out (fun b _ h => ⟨by simp; omega, by omega⟩) (by decide), fun b off e h0 => by
     have e2 := (HA.out.2.2 h0).1
     have e3 : A4 = some ⟨b, off, none⟩ := e
     rw [e2] at e3; injection e3 with e3; injection e3 with e4 e5
     subst e4 e5
     exact ⟨by have := HGS.out; omega, HTH.out.th⟩⟩
   exact qaD rfl rfl (setRow_heap _ _ _ _ _ _ gZ) qaF rfl qap rfl ⟨⟨_, rfl, hTR, hNF⟩, below_setRow HR.out.s.b (by omega) _⟩

open Go.RowKit Go.MapKept Go.Maps
def qlG (t : RpT) (w : World) (e : Ending) (w' : World) : Prop := (∃ h', e = .returned (rpV h') ∧ RpAt w' (w.heap.size ≤ ·) h' t ∧ RsNf w' (w.heap.size ≤ ·) h'.r) ∧ Below w.heap.size w w'
theorem qhT (h : RpH) (t : RpT) (w : World) (R : Nat → Prop) (ht : RpAt w R h t) (hok : RpSm 1048576 t) : Calls Tryz.prog 110 #[rpV h] w (qlG t w) := by
 have HS := Lib.hid (CnSt.start w (rwRp h) rzRp 61)
 have HC := Lib.hid (fun (W : World) (hW : Below w.heap.size w W) => qhE t.r h.r W _ (TrAt.fr kRsOk (R' := R) ht.2 (Fr.of_below (own := []) hW) (fun b _ h => ⟨by simp, h⟩)) hok.2)
 have HE := Lib.hid ht.1
 have r0 : ((w.alloc (.cells (rwRp h) 61)).alloc (.cells rzRp 61)).rangeAt w.heap.size 3 (qax h.r) := qal (pre := [.int .i32 h.xi, .int .i64 h.zx, .int .i32 h.co]) (mid := qax h.r) (post := []) HS.out.c rfl rfl
 clear ht hok
 go_enter Tryz.func110, Tryz.ntmps110
 go_wp2_with (first
  | (apply qai 61 61; exact rfl; exact rfl; exact rfl; (first | (with_reducible rfl) | (exact sz1 _ _) | (exact sz2 _ _ _) | (exact sz3 _ _ _ _)); exact rfl; exact qbM; exact rfl; simp [Value.oneCell'])
  | (apply qau 59; exact rfl; exact rfl; exact rfl; assumption; exact qbY; exact rfl; exact qbk)
  | fail)
 refine (HC.out _ HS.out.b).mono ?_
 generalize ((w.alloc (.cells (rwRp h) 61)).alloc (.cells rzRp 61)) = V0 at *
 rintro e w1 ⟨⟨h6, rfl, ht6, hn6⟩, hb⟩
 have HB1 := Lib.hid hb
 have HSZ := Lib.hid HS.out.s
 replace HS := Lib.hid (HS.out.call hb)
 have hth : w1.there w.heap.size 3 22 := qbT HS.out.c _ _ (Nat.le_refl _)
 have hF := qaB w1 w.heap.size 3 (qax h6)
 have gZ : (w1.setCells w.heap.size 3 (qax h6)).heap[w.heap.size + 1]? = some (.cells rzRp 61 (0, 0)) := (hF.block _ (by have := HS.out.s; omega) (by simp)).trans HS.out.z
 have hp : (w1.setCells w.heap.size 3 (qax h6)).rangeAt w.heap.size 0 [.int .i32 h.xi, .int .i64 h.zx, .int .i32 h.co] := World.rangeAt_setCells_apart (qal (pre := []) (mid := [.int .i32 h.xi, .int .i64 h.zx, .int .i32 h.co]) (post := [.int .i32 h.r.n.ty, .int .i32 h.r.n.co, .string h.r.n.path, .int .i64 h.r.n.q.a, .int .i64 h.r.n.q.b, .int .i64 h.r.n.q.c, .int .i64 h.r.n.q.d, .int .i32 h.r.n.q.e, .int .i32 h.r.n.q.f, .int .i32 h.r.n.q.g, .int .i64 h.r.n.q.h, .int .i32 h.r.n.q.i, .int .i32 h.r.n.q.j, .int .i64 h.r.n.q.k, slV h.r.d, slV h.r.a, slV h.r.m, .int .i32 h.r.n.ct, .int .i64 h.r.n.si, .int .i32 h.r.n.st, slV h.r.i, slV h.r.s]) HS.out.c rfl rfl) _ _ _ (.inr (.inl (by simp)))
 have hrr : (w1.setCells w.heap.size 3 (qax h6)).rangeAt w.heap.size 0 (qaX ⟨h.xi, h.zx, h.co, h6⟩) := qca hp (World.rangeAt_setCells_same w1 w.heap.size 3 (qax h6) hth) rfl
 have ht7 : RsAt (w1.setCells w.heap.size 3 (qax h6)) (w.heap.size + 2 ≤ ·) h6 t.r := TrAt.fr kRsOk ht6 hF (fun b _ h => ⟨by have := HSZ.out; simp; omega, Nat.le_trans HSZ.out h⟩)
 have HN7 := Lib.hid (show RsNf _ (w.heap.size + 2 ≤ ·) h6 from hn6.fr hF (fun b _ h => ⟨by have := HSZ.out; simp; omega, Nat.le_trans HSZ.out h⟩))
 have HT7 := Lib.hid ht7; have HG := Lib.hid (And.intro (hF.below HS.out.b.size (by simp)) gZ)
 have HF := Lib.hid hF
 clear hn6 ht6 hb ht7 hp hF
 go_wp2_with (first
  | (apply qaW 59; exact rfl; exact rfl; exact rfl; exact rfl; assumption; exact qbk; simp [Value.oneCell'])
  | (apply qau 61; exact rfl; exact rfl; exact rfl; assumption; exact qcA; exact rfl; exact qbM)
  | (apply qam 61 61; exact rfl; exact rfl; exact rfl; exact rfl; (first | assumption | (refine qaa ?_; assumption) | (exact qab _ _) | (exact qae _ _ _) | (exact qag _ _ _ _) | (exact qas _ _ _ _ _) | (exact qaa (qab _ _)) | (exact qaa (qae _ _ _)) | (exact qaa (qag _ _ _ _)) | (exact qaa (qaa (qab _ _))) | (exact qaa (qaa (qae _ _ _))) | (exact qaa (qaa (qaa (qab _ _))))); exact qbM; exact rfl; simp [Value.oneCell'])
  | fail)
 have hFr := qaS (w1.setCells w.heap.size 3 (qax h6)) (w.heap.size + 1) (qaX ⟨h.xi, h.zx, h.co, h6⟩).toArray
 exact qaD rfl rfl (setRow_heap _ _ _ _ _ _ gZ) qcA rfl qbM rfl ⟨⟨⟨h.xi, h.zx, h.co, h6⟩, rfl, ⟨HE.out, TrAt.fr kRsOk HT7.out hFr (fun b _ h => ⟨by simp; omega, by omega⟩)⟩, HN7.out.fr hFr (fun b _ h => ⟨by simp; omega, by omega⟩)⟩, below_setRow (HS.out.b.trans HG.out.1) (by omega) _⟩
end Go.Proofs.YtbpmmmnphpkdjaaGreatDoor

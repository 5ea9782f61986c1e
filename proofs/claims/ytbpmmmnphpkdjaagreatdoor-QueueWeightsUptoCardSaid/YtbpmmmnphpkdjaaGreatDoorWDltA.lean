/- The walks of delta.part, known, kept. No condition. -/
import Derived.Test.YtbpmmmnphpkdjaaGreatDoorWQuoG
import Derived.WalkKit
import Derived.Deep.Light
import Derived.Deep.Cut
import Derived.Deep.CutBlock
namespace Go.Proofs.YtbpmmmnphpkdjaaGreatDoor
set_option linter.unusedSimpArgs false
set_option maxRecDepth 100000
set_option maxHeartbeats 20000000
open Go.RowKit Go.MapKept
def qbg (t : Int) : Bool := decide (t = 1 ∨ t = 2 ∨ t = 5 ∨ t = 7 ∨ t = 13 ∨ t = 120 ∨ t = 121)
def qbt (t : Int) : Bool := qbg t || decide (t = 14 ∨ t = -10 ∨ t = -11 ∨ t = -1)
def RetBw (w : World) (b : Bool) (e : Ending) (w' : World) : Prop := e = .returned (.bool b) ∧ w' = w
theorem RetBw.mk {w : World} {a b : Bool} (e : b = a) : RetBw w a (.returned (.bool b)) w := ⟨by rw [e], rfl⟩
theorem qdZ (t : Int) (w : World) : Calls Tryz.prog 108 #[.int .i32 t] w (RetBw w (qbg t)) := by
 by_cases h : t = 1 ∨ t = 2 ∨ t = 5 ∨ t = 7 ∨ t = 13 ∨ t = 120 ∨ t = 121
 ·rcases h with rfl | rfl | rfl | rfl | rfl | rfl | rfl
  all_goals
   go_enter Tryz.func108, Tryz.ntmps108
   go_wp2_with fail
   go_ret
   exact RetBw.mk rfl
 ·have H := Lib.hid (show qbg t = false from decide_eq_false h)
  have h1 : (t == 1) = false := beq_eq_false_iff_ne.2 fun e => h (by simp [e])
  have h2 : (t == 2) = false := beq_eq_false_iff_ne.2 fun e => h (by simp [e])
  have h3 : (t == 5) = false := beq_eq_false_iff_ne.2 fun e => h (by simp [e])
  have h4 : (t == 7) = false := beq_eq_false_iff_ne.2 fun e => h (by simp [e])
  have h5 : (t == 13) = false := beq_eq_false_iff_ne.2 fun e => h (by simp [e])
  have h6 : (t == 120) = false := beq_eq_false_iff_ne.2 fun e => h (by simp [e])
  have h7 : (t == 121) = false := beq_eq_false_iff_ne.2 fun e => h (by simp [e])
  clear h
  go_enter Tryz.func108, Tryz.ntmps108
  go_wp2_with fail
  go_ret
  exact RetBw.mk H.out.symm
theorem qkq (t : Int) (w : World) : Calls Tryz.prog 106 #[.int .i32 t] w (RetBw w (qbt t)) := by
 have hp := qdZ t w
 cases hb : qbg t with
 | true =>
  have H := Lib.hid (show qbt t = true by unfold qbt; rw [hb]; rfl)
  rw [hb] at hp
  clear hb
  go_enter Tryz.func106, Tryz.ntmps106
  go_wp2_with (go_at_call 108; refine hp.mono ?_; rintro e w' ⟨rfl, rfl⟩)
  go_ret
  exact RetBw.mk H.out.symm
 | false =>
  rw [hb] at hp
  by_cases h : t = 14 ∨ t = -10 ∨ t = -11 ∨ t = -1
  ·have H := Lib.hid (show qbt t = true by unfold qbt; rw [hb, decide_eq_true h]; rfl)
   clear hb
   rcases h with rfl | rfl | rfl | rfl
   all_goals
    go_enter Tryz.func106, Tryz.ntmps106
    go_wp2_with (go_at_call 108; refine hp.mono ?_; rintro e w' ⟨rfl, rfl⟩)
    go_ret
    exact RetBw.mk H.out.symm
  ·have H := Lib.hid (show qbt t = false by unfold qbt; rw [hb, decide_eq_false h]; rfl)
   have h1 : (t == 14) = false := beq_eq_false_iff_ne.2 fun e => h (by simp [e])
   have h2 : (t == -10) = false := beq_eq_false_iff_ne.2 fun e => h (by simp [e])
   have h3 : (t == -11) = false := beq_eq_false_iff_ne.2 fun e => h (by simp [e])
   have h4 : (t == -1) = false := beq_eq_false_iff_ne.2 fun e => h (by simp [e])
   clear h hb
   go_enter Tryz.func106, Tryz.ntmps106
   go_wp2_with (go_at_call 108; refine hp.mono ?_; rintro e w' ⟨rfl, rfl⟩)
   go_ret
   exact RetBw.mk H.out.symm
def nilS : SlC := (none, 0, 0)
/-- a transaction with those of its fields that its type has -/
def qat (h : TxH) : TxH :=
 ⟨⟨h.n.ty, if h.n.ty = 14 ∨ h.n.ty = -10 ∨ h.n.ty = -11 ∨ h.n.ty = -1 then ⟨#[]⟩ else h.n.path, if h.n.ty = 1 then h.n.ow else 0, if h.n.ty = 5 ∨ h.n.ty = 7 ∨ h.n.ty = 13 then h.n.ve else 0, if h.n.ty = 1 then h.n.cr else 0,
  if h.n.ty = 120 then h.n.qh else false, if h.n.ty = 120 then h.n.qc else 0, if h.n.ty = 120 then h.n.qb else 0, if h.n.ty = -10 then h.n.si else 0, if h.n.ty = -10 then h.n.st else 0, if h.n.ty = -1 then h.n.co else 0⟩,
  if h.n.ty = 1 ∨ h.n.ty = 5 then h.d else nilS, if h.n.ty = 1 ∨ h.n.ty = 7 then h.a else nilS, if h.n.ty = -10 then h.i else nilS, if h.n.ty = -11 then h.p else nilS, if h.n.ty = 14 then h.s else nilS⟩
def KeptP (h : TxH) (w : World) (e : Ending) (w' : World) : Prop := e = .returned (txV (qat h)) ∧ Below w.heap.size w w'
theorem KeptP.mk {h h' : TxH} {w w' : World} (e : qat h = h') (hb : Below w.heap.size w w') : KeptP h w (.returned (txV h')) w' := ⟨by rw [e], hb⟩
theorem qbr (w : World) (a b c : Obj) : Below w.heap.size w (((w.alloc a).alloc b).alloc c) := (((Below.refl _ w).alloc (Nat.le_refl _) _).alloc (by simp) _).alloc (by simp; omega) _
theorem qnY (h : TxH) (w : World) (ht : h.n.ty = 14) : Calls Tryz.prog 177 #[txV h] w (KeptP h w) := by
 have e0 : (h.n.ty == 14) = true := by rw [ht]; rfl
 have e1 : (h.n.ty == -10) = false := by rw [ht]; rfl
 have e2 : (h.n.ty == -11) = false := by rw [ht]; rfl
 have e3 : (h.n.ty == -1) = false := by rw [ht]; rfl
 have e4 : (h.n.ty == 1) = false := by rw [ht]; rfl
 have e5 : (h.n.ty == 5) = false := by rw [ht]; rfl
 have e6 : (h.n.ty == 7) = false := by rw [ht]; rfl
 have e7 : (h.n.ty == 13) = false := by rw [ht]; rfl
 have e8 : (h.n.ty == 120) = false := by rw [ht]; rfl
 have HK := Lib.hid (show qat h = ⟨⟨h.n.ty, ⟨#[]⟩, 0, 0, 0, false, 0, 0, 0, 0, 0⟩, nilS, nilS, nilS, nilS, h.s⟩ by simp [qat, ht])
 clear ht
 unfold txV
 go_enter Tryz.func177, Tryz.ntmps177
 go_wp2_with (first
  | (apply qai 52 52; exact rfl; exact rfl; exact rfl; (first | (with_reducible rfl) | (exact sz1 _ _) | (exact sz2 _ _ _) | (exact sz3 _ _ _ _)); exact rfl; exact qap; exact rfl; simp [Value.oneCell'])
  | (apply qaw 52 52; exact rfl; exact rfl; exact rfl; (first | assumption | (exact qab _ _) | (exact qae _ _ _) | (exact qag _ _ _ _) | (exact qas _ _ _ _ _) | (exact qaa (qab _ _)) | (exact qaa (qae _ _ _)) | (exact qaa (qag _ _ _ _)) | (exact qaa (qaa (qab _ _))) | (exact qaa (qaa (qae _ _ _))) | (exact qaa (qaa (qaa (qab _ _))))); exact qaF; exact rfl; exact qap)
  | (apply qam 52 52; exact rfl; exact rfl; exact rfl; exact rfl; (first | assumption | (exact qab _ _) | (exact qae _ _ _) | (exact qag _ _ _ _) | (exact qas _ _ _ _ _) | (exact qaa (qab _ _)) | (exact qaa (qae _ _ _)) | (exact qaa (qag _ _ _ _)) | (exact qaa (qaa (qab _ _))) | (exact qaa (qaa (qae _ _ _))) | (exact qaa (qaa (qaa (qab _ _))))); exact qap; exact rfl; simp [Value.oneCell'])
  | fail)
 all_goals
  (try simp only [Exit.inBlock, Exit.then])
  exact qaD rfl rfl (setRow_heap _ _ _ _ _ _ (by first | assumption | (exact qaa (qae _ _ _)))) qaF rfl qap rfl (KeptP.mk HK.out (below_setRow (qbr w _ _ _) (by omega) _))
theorem qlU (h : TxH) (w : World) (ht : h.n.ty = -10) : Calls Tryz.prog 177 #[txV h] w (KeptP h w) := by
 have e0 : (h.n.ty == 14) = false := by rw [ht]; rfl
 have e1 : (h.n.ty == -10) = true := by rw [ht]; rfl
 have e2 : (h.n.ty == -11) = false := by rw [ht]; rfl
 have e3 : (h.n.ty == -1) = false := by rw [ht]; rfl
 have e4 : (h.n.ty == 1) = false := by rw [ht]; rfl
 have e5 : (h.n.ty == 5) = false := by rw [ht]; rfl
 have e6 : (h.n.ty == 7) = false := by rw [ht]; rfl
 have e7 : (h.n.ty == 13) = false := by rw [ht]; rfl
 have e8 : (h.n.ty == 120) = false := by rw [ht]; rfl
 have HK := Lib.hid (show qat h = ⟨⟨h.n.ty, ⟨#[]⟩, 0, 0, 0, false, 0, 0, h.n.si, h.n.st, 0⟩, nilS, nilS, h.i, nilS, nilS⟩ by simp [qat, ht])
 clear ht
 unfold txV
 go_enter Tryz.func177, Tryz.ntmps177
 go_wp2_with (first
  | (apply qai 52 52; exact rfl; exact rfl; exact rfl; (first | (with_reducible rfl) | (exact sz1 _ _) | (exact sz2 _ _ _) | (exact sz3 _ _ _ _)); exact rfl; exact qap; exact rfl; simp [Value.oneCell'])
  | (apply qaw 52 52; exact rfl; exact rfl; exact rfl; (first | assumption | (exact qab _ _) | (exact qae _ _ _) | (exact qag _ _ _ _) | (exact qas _ _ _ _ _) | (exact qaa (qab _ _)) | (exact qaa (qae _ _ _)) | (exact qaa (qag _ _ _ _)) | (exact qaa (qaa (qab _ _))) | (exact qaa (qaa (qae _ _ _))) | (exact qaa (qaa (qaa (qab _ _))))); exact qaF; exact rfl; exact qap)
  | (apply qam 52 52; exact rfl; exact rfl; exact rfl; exact rfl; (first | assumption | (exact qab _ _) | (exact qae _ _ _) | (exact qag _ _ _ _) | (exact qas _ _ _ _ _) | (exact qaa (qab _ _)) | (exact qaa (qae _ _ _)) | (exact qaa (qag _ _ _ _)) | (exact qaa (qaa (qab _ _))) | (exact qaa (qaa (qae _ _ _))) | (exact qaa (qaa (qaa (qab _ _))))); exact qap; exact rfl; simp [Value.oneCell'])
  | fail)
 all_goals
  (try simp only [Exit.inBlock, Exit.then])
  exact qaD rfl rfl (setRow_heap _ _ _ _ _ _ (by first | assumption | (exact qaa (qae _ _ _)))) qaF rfl qap rfl (KeptP.mk HK.out (below_setRow (qbr w _ _ _) (by omega) _))
theorem qmD (h : TxH) (w : World) (ht : h.n.ty = -11) : Calls Tryz.prog 177 #[txV h] w (KeptP h w) := by
 have e0 : (h.n.ty == 14) = false := by rw [ht]; rfl
 have e1 : (h.n.ty == -10) = false := by rw [ht]; rfl
 have e2 : (h.n.ty == -11) = true := by rw [ht]; rfl
 have e3 : (h.n.ty == -1) = false := by rw [ht]; rfl
 have e4 : (h.n.ty == 1) = false := by rw [ht]; rfl
 have e5 : (h.n.ty == 5) = false := by rw [ht]; rfl
 have e6 : (h.n.ty == 7) = false := by rw [ht]; rfl
 have e7 : (h.n.ty == 13) = false := by rw [ht]; rfl
 have e8 : (h.n.ty == 120) = false := by rw [ht]; rfl
 have HK := Lib.hid (show qat h = ⟨⟨h.n.ty, ⟨#[]⟩, 0, 0, 0, false, 0, 0, 0, 0, 0⟩, nilS, nilS, nilS, h.p, nilS⟩ by simp [qat, ht])
 clear ht
 unfold txV
 go_enter Tryz.func177, Tryz.ntmps177
 go_wp2_with (first
  | (apply qai 52 52; exact rfl; exact rfl; exact rfl; (first | (with_reducible rfl) | (exact sz1 _ _) | (exact sz2 _ _ _) | (exact sz3 _ _ _ _)); exact rfl; exact qap; exact rfl; simp [Value.oneCell'])
  | (apply qaw 52 52; exact rfl; exact rfl; exact rfl; (first | assumption | (exact qab _ _) | (exact qae _ _ _) | (exact qag _ _ _ _) | (exact qas _ _ _ _ _) | (exact qaa (qab _ _)) | (exact qaa (qae _ _ _)) | (exact qaa (qag _ _ _ _)) | (exact qaa (qaa (qab _ _))) | (exact qaa (qaa (qae _ _ _))) | (exact qaa (qaa (qaa (qab _ _))))); exact qaF; exact rfl; exact qap)
  | (apply qam 52 52; exact rfl; exact rfl; exact rfl; exact rfl; (first | assumption | (exact qab _ _) | (exact qae _ _ _) | (exact qag _ _ _ _) | (exact qas _ _ _ _ _) | (exact qaa (qab _ _)) | (exact qaa (qae _ _ _)) | (exact qaa (qag _ _ _ _)) | (exact qaa (qaa (qab _ _))) | (exact qaa (qaa (qae _ _ _))) | (exact qaa (qaa (qaa (qab _ _))))); exact qap; exact rfl; simp [Value.oneCell'])
  | fail)
 all_goals
  (try simp only [Exit.inBlock, Exit.then])
  exact qaD rfl rfl (setRow_heap _ _ _ _ _ _ (by first | assumption | (exact qaa (qae _ _ _)))) qaF rfl qap rfl (KeptP.mk HK.out (below_setRow (qbr w _ _ _) (by omega) _))
theorem qnK (h : TxH) (w : World) (ht : h.n.ty = -1) : Calls Tryz.prog 177 #[txV h] w (KeptP h w) := by
 have e0 : (h.n.ty == 14) = false := by rw [ht]; rfl
 have e1 : (h.n.ty == -10) = false := by rw [ht]; rfl
 have e2 : (h.n.ty == -11) = false := by rw [ht]; rfl
 have e3 : (h.n.ty == -1) = true := by rw [ht]; rfl
 have e4 : (h.n.ty == 1) = false := by rw [ht]; rfl
 have e5 : (h.n.ty == 5) = false := by rw [ht]; rfl
 have e6 : (h.n.ty == 7) = false := by rw [ht]; rfl
 have e7 : (h.n.ty == 13) = false := by rw [ht]; rfl
 have e8 : (h.n.ty == 120) = false := by rw [ht]; rfl
 have HK := Lib.hid (show qat h = ⟨⟨h.n.ty, ⟨#[]⟩, 0, 0, 0, false, 0, 0, 0, 0, h.n.co⟩, nilS, nilS, nilS, nilS, nilS⟩ by simp [qat, ht])
 clear ht
 unfold txV
 go_enter Tryz.func177, Tryz.ntmps177
 go_wp2_with (first
  | (apply qai 52 52; exact rfl; exact rfl; exact rfl; (first | (with_reducible rfl) | (exact sz1 _ _) | (exact sz2 _ _ _) | (exact sz3 _ _ _ _)); exact rfl; exact qap; exact rfl; simp [Value.oneCell'])
  | (apply qaw 52 52; exact rfl; exact rfl; exact rfl; (first | assumption | (exact qab _ _) | (exact qae _ _ _) | (exact qag _ _ _ _) | (exact qas _ _ _ _ _) | (exact qaa (qab _ _)) | (exact qaa (qae _ _ _)) | (exact qaa (qag _ _ _ _)) | (exact qaa (qaa (qab _ _))) | (exact qaa (qaa (qae _ _ _))) | (exact qaa (qaa (qaa (qab _ _))))); exact qaF; exact rfl; exact qap)
  | (apply qam 52 52; exact rfl; exact rfl; exact rfl; exact rfl; (first | assumption | (exact qab _ _) | (exact qae _ _ _) | (exact qag _ _ _ _) | (exact qas _ _ _ _ _) | (exact qaa (qab _ _)) | (exact qaa (qae _ _ _)) | (exact qaa (qag _ _ _ _)) | (exact qaa (qaa (qab _ _))) | (exact qaa (qaa (qae _ _ _))) | (exact qaa (qaa (qaa (qab _ _))))); exact qap; exact rfl; simp [Value.oneCell'])
  | fail)
 all_goals
  (try simp only [Exit.inBlock, Exit.then])
  exact qaD rfl rfl (setRow_heap _ _ _ _ _ _ (by first | assumption | (exact qaa (qae _ _ _)))) qaF rfl qap rfl (KeptP.mk HK.out (below_setRow (qbr w _ _ _) (by omega) _))
theorem qoC (h : TxH) (w : World) (ht : h.n.ty = 1) : Calls Tryz.prog 177 #[txV h] w (KeptP h w) := by
 have e0 : (h.n.ty == 14) = false := by rw [ht]; rfl
 have e1 : (h.n.ty == -10) = false := by rw [ht]; rfl
 have e2 : (h.n.ty == -11) = false := by rw [ht]; rfl
 have e3 : (h.n.ty == -1) = false := by rw [ht]; rfl
 have e4 : (h.n.ty == 1) = true := by rw [ht]; rfl
 have e5 : (h.n.ty == 5) = false := by rw [ht]; rfl
 have e6 : (h.n.ty == 7) = false := by rw [ht]; rfl
 have e7 : (h.n.ty == 13) = false := by rw [ht]; rfl
 have e8 : (h.n.ty == 120) = false := by rw [ht]; rfl
 have HK := Lib.hid (show qat h = ⟨⟨h.n.ty, h.n.path, h.n.ow, 0, h.n.cr, false, 0, 0, 0, 0, 0⟩, h.d, h.a, nilS, nilS, nilS⟩ by simp [qat, ht])
 clear ht
 unfold txV
 go_enter Tryz.func177, Tryz.ntmps177
 go_upto_block 1 with (first | (apply qai 52 52; exact rfl; exact rfl; exact rfl; (first | (with_reducible rfl) | (exact sz1 _ _) | (exact sz2 _ _ _) | (exact sz3 _ _ _ _)); exact rfl; exact qap; exact rfl; simp [Value.oneCell']) | fail)
 go_cut [38] from 39 to 77 (fun _ wx => ∃ q, wx = (((w.alloc (.cells (rwTx h) 52)).alloc (.cells rzTx 52)).alloc (.cells #[.int .i32 h.n.ty, .string h.n.path, .slice h.d.1 h.d.2.1 h.d.2.2, .slice h.a.1 h.a.2.1 h.a.2.2, .int .i64 h.n.ow, .int .i32 0, .int .i32 h.n.cr, .bool false, .int .i64 0, .int .i64 0, .int .i64 0, .int .i32 0, .slice none 0 0, .slice none 0 0, .int .i32 0, .slice none 0 0] 52)).drewN q)
 case first =>
  go_wp2_with fail
  go_region
  all_goals go_wp2_with fail
  all_goals go_meet
  all_goals exact ⟨_, rfl⟩
 case rest =>
 obtain ⟨q, rfl⟩ := hcut
 have g1 : ((((w.alloc (.cells (rwTx h) 52)).alloc (.cells rzTx 52)).alloc (.cells #[.int .i32 h.n.ty, .string h.n.path, .slice h.d.1 h.d.2.1 h.d.2.2, .slice h.a.1 h.a.2.1 h.a.2.2, .int .i64 h.n.ow, .int .i32 0, .int .i32 h.n.cr, .bool false, .int .i64 0, .int .i64 0, .int .i64 0, .int .i32 0, .slice none 0 0, .slice none 0 0, .int .i32 0, .slice none 0 0] 52)).drewN q).heap[w.heap.size + 1]? = some (.cells rzTx 52) := qaa (qae w _ _)
 have g2 : ((((w.alloc (.cells (rwTx h) 52)).alloc (.cells rzTx 52)).alloc (.cells #[.int .i32 h.n.ty, .string h.n.path, .slice h.d.1 h.d.2.1 h.d.2.2, .slice h.a.1 h.a.2.1 h.a.2.2, .int .i64 h.n.ow, .int .i32 0, .int .i32 h.n.cr, .bool false, .int .i64 0, .int .i64 0, .int .i64 0, .int .i32 0, .slice none 0 0, .slice none 0 0, .int .i32 0, .slice none 0 0] 52)).drewN q).heap[w.heap.size + 1 + 1]? = some (.cells #[.int .i32 h.n.ty, .string h.n.path, .slice h.d.1 h.d.2.1 h.d.2.2, .slice h.a.1 h.a.2.1 h.a.2.2, .int .i64 h.n.ow, .int .i32 0, .int .i32 h.n.cr, .bool false, .int .i64 0, .int .i64 0, .int .i64 0, .int .i32 0, .slice none 0 0, .slice none 0 0, .int .i32 0, .slice none 0 0] 52) := qag w _ _ _
 have HB := Lib.hid (show Below w.heap.size w ((((w.alloc (.cells (rwTx h) 52)).alloc (.cells rzTx 52)).alloc (.cells #[.int .i32 h.n.ty, .string h.n.path, .slice h.d.1 h.d.2.1 h.d.2.2, .slice h.a.1 h.a.2.1 h.a.2.2, .int .i64 h.n.ow, .int .i32 0, .int .i32 h.n.cr, .bool false, .int .i64 0, .int .i64 0, .int .i64 0, .int .i32 0, .slice none 0 0, .slice none 0 0, .int .i32 0, .slice none 0 0] 52)).drewN q) from qac (qbr w _ _ _) q)
 generalize (((w.alloc (.cells (rwTx h) 52)).alloc (.cells rzTx 52)).alloc (.cells #[.int .i32 h.n.ty, .string h.n.path, .slice h.d.1 h.d.2.1 h.d.2.2, .slice h.a.1 h.a.2.1 h.a.2.2, .int .i64 h.n.ow, .int .i32 0, .int .i32 h.n.cr, .bool false, .int .i64 0, .int .i64 0, .int .i64 0, .int .i32 0, .slice none 0 0, .slice none 0 0, .int .i32 0, .slice none 0 0] 52)).drewN q = V at *
 go_wp2_with (first
  | (apply qai 52 52; exact rfl; exact rfl; exact rfl; (first | (with_reducible rfl) | (exact sz1 _ _) | (exact sz2 _ _ _) | (exact sz3 _ _ _ _)); exact rfl; exact qap; exact rfl; simp [Value.oneCell'])
  | (apply qaw 52 52; exact rfl; exact rfl; exact rfl; (first | assumption | (exact qab _ _) | (exact qae _ _ _) | (exact qag _ _ _ _) | (exact qas _ _ _ _ _) | (exact qaa (qab _ _)) | (exact qaa (qae _ _ _)) | (exact qaa (qag _ _ _ _)) | (exact qaa (qaa (qab _ _))) | (exact qaa (qaa (qae _ _ _))) | (exact qaa (qaa (qaa (qab _ _))))); exact qaF; exact rfl; exact qap)
  | (apply qam 52 52; exact rfl; exact rfl; exact rfl; exact rfl; (first | assumption | (exact qab _ _) | (exact qae _ _ _) | (exact qag _ _ _ _) | (exact qas _ _ _ _ _) | (exact qaa (qab _ _)) | (exact qaa (qae _ _ _)) | (exact qaa (qag _ _ _ _)) | (exact qaa (qaa (qab _ _))) | (exact qaa (qaa (qae _ _ _))) | (exact qaa (qaa (qaa (qab _ _))))); exact qap; exact rfl; simp [Value.oneCell'])
  | fail)
 all_goals
  (try simp only [Exit.inBlock, Exit.then])
  exact qaD rfl rfl (setRow_heap _ _ _ _ _ _ (by first | assumption | (exact qaa (qae _ _ _)))) qaF rfl qap rfl (KeptP.mk HK.out (below_setRow HB.out (by omega) _))
theorem qoM (h : TxH) (w : World) (ht : h.n.ty = 5) : Calls Tryz.prog 177 #[txV h] w (KeptP h w) := by
 have e0 : (h.n.ty == 14) = false := by rw [ht]; rfl
 have e1 : (h.n.ty == -10) = false := by rw [ht]; rfl
 have e2 : (h.n.ty == -11) = false := by rw [ht]; rfl
 have e3 : (h.n.ty == -1) = false := by rw [ht]; rfl
 have e4 : (h.n.ty == 1) = false := by rw [ht]; rfl
 have e5 : (h.n.ty == 5) = true := by rw [ht]; rfl
 have e6 : (h.n.ty == 7) = false := by rw [ht]; rfl
 have e7 : (h.n.ty == 13) = false := by rw [ht]; rfl
 have e8 : (h.n.ty == 120) = false := by rw [ht]; rfl
 have HK := Lib.hid (show qat h = ⟨⟨h.n.ty, h.n.path, 0, h.n.ve, 0, false, 0, 0, 0, 0, 0⟩, h.d, nilS, nilS, nilS, nilS⟩ by simp [qat, ht])
 clear ht
 unfold txV
 go_enter Tryz.func177, Tryz.ntmps177
 go_upto_block 1 with (first | (apply qai 52 52; exact rfl; exact rfl; exact rfl; (first | (with_reducible rfl) | (exact sz1 _ _) | (exact sz2 _ _ _) | (exact sz3 _ _ _ _)); exact rfl; exact qap; exact rfl; simp [Value.oneCell']) | fail)
 go_cut [38] from 39 to 77 (fun _ wx => ∃ q, wx = (((w.alloc (.cells (rwTx h) 52)).alloc (.cells rzTx 52)).alloc (.cells #[.int .i32 h.n.ty, .string h.n.path, .slice h.d.1 h.d.2.1 h.d.2.2, .slice none 0 0, .int .i64 0, .int .i32 h.n.ve, .int .i32 0, .bool false, .int .i64 0, .int .i64 0, .int .i64 0, .int .i32 0, .slice none 0 0, .slice none 0 0, .int .i32 0, .slice none 0 0] 52)).drewN q)
 case first =>
  go_wp2_with fail
  go_region
  all_goals go_wp2_with fail
  all_goals go_meet
  all_goals exact ⟨_, rfl⟩
 case rest =>
 obtain ⟨q, rfl⟩ := hcut
 have g1 : ((((w.alloc (.cells (rwTx h) 52)).alloc (.cells rzTx 52)).alloc (.cells #[.int .i32 h.n.ty, .string h.n.path, .slice h.d.1 h.d.2.1 h.d.2.2, .slice none 0 0, .int .i64 0, .int .i32 h.n.ve, .int .i32 0, .bool false, .int .i64 0, .int .i64 0, .int .i64 0, .int .i32 0, .slice none 0 0, .slice none 0 0, .int .i32 0, .slice none 0 0] 52)).drewN q).heap[w.heap.size + 1]? = some (.cells rzTx 52) := qaa (qae w _ _)
 have g2 : ((((w.alloc (.cells (rwTx h) 52)).alloc (.cells rzTx 52)).alloc (.cells #[.int .i32 h.n.ty, .string h.n.path, .slice h.d.1 h.d.2.1 h.d.2.2, .slice none 0 0, .int .i64 0, .int .i32 h.n.ve, .int .i32 0, .bool false, .int .i64 0, .int .i64 0, .int .i64 0, .int .i32 0, .slice none 0 0, .slice none 0 0, .int .i32 0, .slice none 0 0] 52)).drewN q).heap[w.heap.size + 1 + 1]? = some (.cells #[.int .i32 h.n.ty, .string h.n.path, .slice h.d.1 h.d.2.1 h.d.2.2, .slice none 0 0, .int .i64 0, .int .i32 h.n.ve, .int .i32 0, .bool false, .int .i64 0, .int .i64 0, .int .i64 0, .int .i32 0, .slice none 0 0, .slice none 0 0, .int .i32 0, .slice none 0 0] 52) := qag w _ _ _
 have HB := Lib.hid (show Below w.heap.size w ((((w.alloc (.cells (rwTx h) 52)).alloc (.cells rzTx 52)).alloc (.cells #[.int .i32 h.n.ty, .string h.n.path, .slice h.d.1 h.d.2.1 h.d.2.2, .slice none 0 0, .int .i64 0, .int .i32 h.n.ve, .int .i32 0, .bool false, .int .i64 0, .int .i64 0, .int .i64 0, .int .i32 0, .slice none 0 0, .slice none 0 0, .int .i32 0, .slice none 0 0] 52)).drewN q) from qac (qbr w _ _ _) q)
 generalize (((w.alloc (.cells (rwTx h) 52)).alloc (.cells rzTx 52)).alloc (.cells #[.int .i32 h.n.ty, .string h.n.path, .slice h.d.1 h.d.2.1 h.d.2.2, .slice none 0 0, .int .i64 0, .int .i32 h.n.ve, .int .i32 0, .bool false, .int .i64 0, .int .i64 0, .int .i64 0, .int .i32 0, .slice none 0 0, .slice none 0 0, .int .i32 0, .slice none 0 0] 52)).drewN q = V at *
 go_wp2_with (first
  | (apply qai 52 52; exact rfl; exact rfl; exact rfl; (first | (with_reducible rfl) | (exact sz1 _ _) | (exact sz2 _ _ _) | (exact sz3 _ _ _ _)); exact rfl; exact qap; exact rfl; simp [Value.oneCell'])
  | (apply qaw 52 52; exact rfl; exact rfl; exact rfl; (first | assumption | (exact qab _ _) | (exact qae _ _ _) | (exact qag _ _ _ _) | (exact qas _ _ _ _ _) | (exact qaa (qab _ _)) | (exact qaa (qae _ _ _)) | (exact qaa (qag _ _ _ _)) | (exact qaa (qaa (qab _ _))) | (exact qaa (qaa (qae _ _ _))) | (exact qaa (qaa (qaa (qab _ _))))); exact qaF; exact rfl; exact qap)
  | (apply qam 52 52; exact rfl; exact rfl; exact rfl; exact rfl; (first | assumption | (exact qab _ _) | (exact qae _ _ _) | (exact qag _ _ _ _) | (exact qas _ _ _ _ _) | (exact qaa (qab _ _)) | (exact qaa (qae _ _ _)) | (exact qaa (qag _ _ _ _)) | (exact qaa (qaa (qab _ _))) | (exact qaa (qaa (qae _ _ _))) | (exact qaa (qaa (qaa (qab _ _))))); exact qap; exact rfl; simp [Value.oneCell'])
  | fail)
 all_goals
  (try simp only [Exit.inBlock, Exit.then])
  exact qaD rfl rfl (setRow_heap _ _ _ _ _ _ (by first | assumption | (exact qaa (qae _ _ _)))) qaF rfl qap rfl (KeptP.mk HK.out (below_setRow HB.out (by omega) _))
theorem qoo (h : TxH) (w : World) (ht : h.n.ty = 7) : Calls Tryz.prog 177 #[txV h] w (KeptP h w) := by
 have e0 : (h.n.ty == 14) = false := by rw [ht]; rfl
 have e1 : (h.n.ty == -10) = false := by rw [ht]; rfl
 have e2 : (h.n.ty == -11) = false := by rw [ht]; rfl
 have e3 : (h.n.ty == -1) = false := by rw [ht]; rfl
 have e4 : (h.n.ty == 1) = false := by rw [ht]; rfl
 have e5 : (h.n.ty == 5) = false := by rw [ht]; rfl
 have e6 : (h.n.ty == 7) = true := by rw [ht]; rfl
 have e7 : (h.n.ty == 13) = false := by rw [ht]; rfl
 have e8 : (h.n.ty == 120) = false := by rw [ht]; rfl
 have HK := Lib.hid (show qat h = ⟨⟨h.n.ty, h.n.path, 0, h.n.ve, 0, false, 0, 0, 0, 0, 0⟩, nilS, h.a, nilS, nilS, nilS⟩ by simp [qat, ht])
 clear ht
 unfold txV
 go_enter Tryz.func177, Tryz.ntmps177
 go_upto_block 1 with (first | (apply qai 52 52; exact rfl; exact rfl; exact rfl; (first | (with_reducible rfl) | (exact sz1 _ _) | (exact sz2 _ _ _) | (exact sz3 _ _ _ _)); exact rfl; exact qap; exact rfl; simp [Value.oneCell']) | fail)
 go_cut [38] from 39 to 77 (fun _ wx => ∃ q, wx = (((w.alloc (.cells (rwTx h) 52)).alloc (.cells rzTx 52)).alloc (.cells #[.int .i32 h.n.ty, .string h.n.path, .slice none 0 0, .slice h.a.1 h.a.2.1 h.a.2.2, .int .i64 0, .int .i32 h.n.ve, .int .i32 0, .bool false, .int .i64 0, .int .i64 0, .int .i64 0, .int .i32 0, .slice none 0 0, .slice none 0 0, .int .i32 0, .slice none 0 0] 52)).drewN q)
 case first =>
  go_wp2_with fail
  go_region
  all_goals go_wp2_with fail
  all_goals go_meet
  all_goals exact ⟨_, rfl⟩
 case rest =>
 obtain ⟨q, rfl⟩ := hcut
 have g1 : ((((w.alloc (.cells (rwTx h) 52)).alloc (.cells rzTx 52)).alloc (.cells #[.int .i32 h.n.ty, .string h.n.path, .slice none 0 0, .slice h.a.1 h.a.2.1 h.a.2.2, .int .i64 0, .int .i32 h.n.ve, .int .i32 0, .bool false, .int .i64 0, .int .i64 0, .int .i64 0, .int .i32 0, .slice none 0 0, .slice none 0 0, .int .i32 0, .slice none 0 0] 52)).drewN q).heap[w.heap.size + 1]? = some (.cells rzTx 52) := qaa (qae w _ _)
 have g2 : ((((w.alloc (.cells (rwTx h) 52)).alloc (.cells rzTx 52)).alloc (.cells #[.int .i32 h.n.ty, .string h.n.path, .slice none 0 0, .slice h.a.1 h.a.2.1 h.a.2.2, .int .i64 0, .int .i32 h.n.ve, .int .i32 0, .bool false, .int .i64 0, .int .i64 0, .int .i64 0, .int .i32 0, .slice none 0 0, .slice none 0 0, .int .i32 0, .slice none 0 0] 52)).drewN q).heap[w.heap.size + 1 + 1]? = some (.cells #[.int .i32 h.n.ty, .string h.n.path, .slice none 0 0, .slice h.a.1 h.a.2.1 h.a.2.2, .int .i64 0, .int .i32 h.n.ve, .int .i32 0, .bool false, .int .i64 0, .int .i64 0, .int .i64 0, .int .i32 0, .slice none 0 0, .slice none 0 0, .int .i32 0, .slice none 0 0] 52) := qag w _ _ _
 have HB := Lib.hid (show Below w.heap.size w ((((w.alloc (.cells (rwTx h) 52)).alloc (.cells rzTx 52)).alloc (.cells #[.int .i32 h.n.ty, .string h.n.path, .slice none 0 0, .slice h.a.1 h.a.2.1 h.a.2.2, .int .i64 0, .int .i32 h.n.ve, .int .i32 0, .bool false, .int .i64 0, .int .i64 0, .int .i64 0, .int .i32 0, .slice none 0 0, .slice none 0 0, .int .i32 0, .slice none 0 0] 52)).drewN q) from qac (qbr w _ _ _) q)
 generalize (((w.alloc (.cells (rwTx h) 52)).alloc (.cells rzTx 52)).alloc (.cells #[.int .i32 h.n.ty, .string h.n.path, .slice none 0 0, .slice h.a.1 h.a.2.1 h.a.2.2, .int .i64 0, .int .i32 h.n.ve, .int .i32 0, .bool false, .int .i64 0, .int .i64 0, .int .i64 0, .int .i32 0, .slice none 0 0, .slice none 0 0, .int .i32 0, .slice none 0 0] 52)).drewN q = V at *
 go_wp2_with (first
  | (apply qai 52 52; exact rfl; exact rfl; exact rfl; (first | (with_reducible rfl) | (exact sz1 _ _) | (exact sz2 _ _ _) | (exact sz3 _ _ _ _)); exact rfl; exact qap; exact rfl; simp [Value.oneCell'])
  | (apply qaw 52 52; exact rfl; exact rfl; exact rfl; (first | assumption | (exact qab _ _) | (exact qae _ _ _) | (exact qag _ _ _ _) | (exact qas _ _ _ _ _) | (exact qaa (qab _ _)) | (exact qaa (qae _ _ _)) | (exact qaa (qag _ _ _ _)) | (exact qaa (qaa (qab _ _))) | (exact qaa (qaa (qae _ _ _))) | (exact qaa (qaa (qaa (qab _ _))))); exact qaF; exact rfl; exact qap)
  | (apply qam 52 52; exact rfl; exact rfl; exact rfl; exact rfl; (first | assumption | (exact qab _ _) | (exact qae _ _ _) | (exact qag _ _ _ _) | (exact qas _ _ _ _ _) | (exact qaa (qab _ _)) | (exact qaa (qae _ _ _)) | (exact qaa (qag _ _ _ _)) | (exact qaa (qaa (qab _ _))) | (exact qaa (qaa (qae _ _ _))) | (exact qaa (qaa (qaa (qab _ _))))); exact qap; exact rfl; simp [Value.oneCell'])
  | fail)
 all_goals
  (try simp only [Exit.inBlock, Exit.then])
  exact qaD rfl rfl (setRow_heap _ _ _ _ _ _ (by first | assumption | (exact qaa (qae _ _ _)))) qaF rfl qap rfl (KeptP.mk HK.out (below_setRow HB.out (by omega) _))
theorem qnh (h : TxH) (w : World) (ht : h.n.ty = 13) : Calls Tryz.prog 177 #[txV h] w (KeptP h w) := by
 have e0 : (h.n.ty == 14) = false := by rw [ht]; rfl
 have e1 : (h.n.ty == -10) = false := by rw [ht]; rfl
 have e2 : (h.n.ty == -11) = false := by rw [ht]; rfl
 have e3 : (h.n.ty == -1) = false := by rw [ht]; rfl
 have e4 : (h.n.ty == 1) = false := by rw [ht]; rfl
 have e5 : (h.n.ty == 5) = false := by rw [ht]; rfl
 have e6 : (h.n.ty == 7) = false := by rw [ht]; rfl
 have e7 : (h.n.ty == 13) = true := by rw [ht]; rfl
 have e8 : (h.n.ty == 120) = false := by rw [ht]; rfl
 have HK := Lib.hid (show qat h = ⟨⟨h.n.ty, h.n.path, 0, h.n.ve, 0, false, 0, 0, 0, 0, 0⟩, nilS, nilS, nilS, nilS, nilS⟩ by simp [qat, ht])
 clear ht
 unfold txV
 go_enter Tryz.func177, Tryz.ntmps177
 go_wp2_with (first
  | (apply qai 52 52; exact rfl; exact rfl; exact rfl; (first | (with_reducible rfl) | (exact sz1 _ _) | (exact sz2 _ _ _) | (exact sz3 _ _ _ _)); exact rfl; exact qap; exact rfl; simp [Value.oneCell'])
  | (apply qaw 52 52; exact rfl; exact rfl; exact rfl; (first | assumption | (exact qab _ _) | (exact qae _ _ _) | (exact qag _ _ _ _) | (exact qas _ _ _ _ _) | (exact qaa (qab _ _)) | (exact qaa (qae _ _ _)) | (exact qaa (qag _ _ _ _)) | (exact qaa (qaa (qab _ _))) | (exact qaa (qaa (qae _ _ _))) | (exact qaa (qaa (qaa (qab _ _))))); exact qaF; exact rfl; exact qap)
  | (apply qam 52 52; exact rfl; exact rfl; exact rfl; exact rfl; (first | assumption | (exact qab _ _) | (exact qae _ _ _) | (exact qag _ _ _ _) | (exact qas _ _ _ _ _) | (exact qaa (qab _ _)) | (exact qaa (qae _ _ _)) | (exact qaa (qag _ _ _ _)) | (exact qaa (qaa (qab _ _))) | (exact qaa (qaa (qae _ _ _))) | (exact qaa (qaa (qaa (qab _ _))))); exact qap; exact rfl; simp [Value.oneCell'])
  | fail)
 all_goals
  (try simp only [Exit.inBlock, Exit.then])
  exact qaD rfl rfl (setRow_heap _ _ _ _ _ _ (by first | assumption | (exact qaa (qae _ _ _)))) qaF rfl qap rfl (KeptP.mk HK.out (below_setRow (qbr w _ _ _) (by omega) _))
theorem qlB (h : TxH) (w : World) (ht : h.n.ty = 120) : Calls Tryz.prog 177 #[txV h] w (KeptP h w) := by
 have e0 : (h.n.ty == 14) = false := by rw [ht]; rfl
 have e1 : (h.n.ty == -10) = false := by rw [ht]; rfl
 have e2 : (h.n.ty == -11) = false := by rw [ht]; rfl
 have e3 : (h.n.ty == -1) = false := by rw [ht]; rfl
 have e4 : (h.n.ty == 1) = false := by rw [ht]; rfl
 have e5 : (h.n.ty == 5) = false := by rw [ht]; rfl
 have e6 : (h.n.ty == 7) = false := by rw [ht]; rfl
 have e7 : (h.n.ty == 13) = false := by rw [ht]; rfl
 have e8 : (h.n.ty == 120) = true := by rw [ht]; rfl
 have HK := Lib.hid (show qat h = ⟨⟨h.n.ty, h.n.path, 0, 0, 0, h.n.qh, h.n.qc, h.n.qb, 0, 0, 0⟩, nilS, nilS, nilS, nilS, nilS⟩ by simp [qat, ht])
 clear ht
 unfold txV
 go_enter Tryz.func177, Tryz.ntmps177
 go_wp2_with (first
  | (apply qai 52 52; exact rfl; exact rfl; exact rfl; (first | (with_reducible rfl) | (exact sz1 _ _) | (exact sz2 _ _ _) | (exact sz3 _ _ _ _)); exact rfl; exact qap; exact rfl; simp [Value.oneCell'])
  | (apply qaw 52 52; exact rfl; exact rfl; exact rfl; (first | assumption | (exact qab _ _) | (exact qae _ _ _) | (exact qag _ _ _ _) | (exact qas _ _ _ _ _) | (exact qaa (qab _ _)) | (exact qaa (qae _ _ _)) | (exact qaa (qag _ _ _ _)) | (exact qaa (qaa (qab _ _))) | (exact qaa (qaa (qae _ _ _))) | (exact qaa (qaa (qaa (qab _ _))))); exact qaF; exact rfl; exact qap)
  | (apply qam 52 52; exact rfl; exact rfl; exact rfl; exact rfl; (first | assumption | (exact qab _ _) | (exact qae _ _ _) | (exact qag _ _ _ _) | (exact qas _ _ _ _ _) | (exact qaa (qab _ _)) | (exact qaa (qae _ _ _)) | (exact qaa (qag _ _ _ _)) | (exact qaa (qaa (qab _ _))) | (exact qaa (qaa (qae _ _ _))) | (exact qaa (qaa (qaa (qab _ _))))); exact qap; exact rfl; simp [Value.oneCell'])
  | fail)
 all_goals
  (try simp only [Exit.inBlock, Exit.then])
  exact qaD rfl rfl (setRow_heap _ _ _ _ _ _ (by first | assumption | (exact qaa (qae _ _ _)))) qaF rfl qap rfl (KeptP.mk HK.out (below_setRow (qbr w _ _ _) (by omega) _))
theorem qop (h : TxH) (w : World) (ht : ¬ (h.n.ty = 14 ∨ h.n.ty = -10 ∨ h.n.ty = -11 ∨ h.n.ty = -1 ∨ h.n.ty = 1 ∨ h.n.ty = 5 ∨ h.n.ty = 7 ∨ h.n.ty = 13 ∨ h.n.ty = 120)) : Calls Tryz.prog 177 #[txV h] w (KeptP h w) := by
 have e0 : (h.n.ty == 14) = false := beq_eq_false_iff_ne.2 fun e => ht (by simp [e])
 have e1 : (h.n.ty == -10) = false := beq_eq_false_iff_ne.2 fun e => ht (by simp [e])
 have e2 : (h.n.ty == -11) = false := beq_eq_false_iff_ne.2 fun e => ht (by simp [e])
 have e3 : (h.n.ty == -1) = false := beq_eq_false_iff_ne.2 fun e => ht (by simp [e])
 have e4 : (h.n.ty == 1) = false := beq_eq_false_iff_ne.2 fun e => ht (by simp [e])
 have e5 : (h.n.ty == 5) = false := beq_eq_false_iff_ne.2 fun e => ht (by simp [e])
 have e6 : (h.n.ty == 7) = false := beq_eq_false_iff_ne.2 fun e => ht (by simp [e])
 have e7 : (h.n.ty == 13) = false := beq_eq_false_iff_ne.2 fun e => ht (by simp [e])
 have e8 : (h.n.ty == 120) = false := beq_eq_false_iff_ne.2 fun e => ht (by simp [e])
 have HK := Lib.hid (show qat h = ⟨⟨h.n.ty, h.n.path, 0, 0, 0, false, 0, 0, 0, 0, 0⟩, nilS, nilS, nilS, nilS, nilS⟩ by
  simp only [not_or] at ht
  simp [qat, ht])
 clear ht
 unfold txV
 go_enter Tryz.func177, Tryz.ntmps177
 go_wp2_with (first
  | (apply qai 52 52; exact rfl; exact rfl; exact rfl; (first | (with_reducible rfl) | (exact sz1 _ _) | (exact sz2 _ _ _) | (exact sz3 _ _ _ _)); exact rfl; exact qap; exact rfl; simp [Value.oneCell'])
  | (apply qaw 52 52; exact rfl; exact rfl; exact rfl; (first | assumption | (exact qab _ _) | (exact qae _ _ _) | (exact qag _ _ _ _) | (exact qas _ _ _ _ _) | (exact qaa (qab _ _)) | (exact qaa (qae _ _ _)) | (exact qaa (qag _ _ _ _)) | (exact qaa (qaa (qab _ _))) | (exact qaa (qaa (qae _ _ _))) | (exact qaa (qaa (qaa (qab _ _))))); exact qaF; exact rfl; exact qap)
  | (apply qam 52 52; exact rfl; exact rfl; exact rfl; exact rfl; (first | assumption | (exact qab _ _) | (exact qae _ _ _) | (exact qag _ _ _ _) | (exact qas _ _ _ _ _) | (exact qaa (qab _ _)) | (exact qaa (qae _ _ _)) | (exact qaa (qag _ _ _ _)) | (exact qaa (qaa (qab _ _))) | (exact qaa (qaa (qae _ _ _))) | (exact qaa (qaa (qaa (qab _ _))))); exact qap; exact rfl; simp [Value.oneCell'])
  | fail)
 all_goals
  (try simp only [Exit.inBlock, Exit.then])
  exact qaD rfl rfl (setRow_heap _ _ _ _ _ _ (by first | assumption | (exact qaa (qae _ _ _)))) qaF rfl qap rfl (KeptP.mk HK.out (below_setRow (qbr w _ _ _) (by omega) _))
theorem qlT (h : TxH) (w : World) : Calls Tryz.prog 177 #[txV h] w (KeptP h w) := by
 by_cases h0 : h.n.ty = 14
 ·exact qnY h w h0
 by_cases h1 : h.n.ty = -10
 ·exact qlU h w h1
 by_cases h2 : h.n.ty = -11
 ·exact qmD h w h2
 by_cases h3 : h.n.ty = -1
 ·exact qnK h w h3
 by_cases h4 : h.n.ty = 1
 ·exact qoC h w h4
 by_cases h5 : h.n.ty = 5
 ·exact qoM h w h5
 by_cases h6 : h.n.ty = 7
 ·exact qoo h w h6
 by_cases h7 : h.n.ty = 13
 ·exact qnh h w h7
 by_cases h8 : h.n.ty = 120
 ·exact qlB h w h8
 exact qop h w (by simp only [not_or]; exact ⟨h0, h1, h2, h3, h4, h5, h6, h7, h8⟩)
end Go.Proofs.YtbpmmmnphpkdjaaGreatDoor

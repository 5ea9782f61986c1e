/- A nil queue's calls; the law QueueNils. Condition: bulk at most 2^20. -/
import Derived.Test.YtbpmmmnphpkdjaaGreatDoorZVto
import Derived.Test.YtbpmmmnphpkdjaaGreatDoorZOpD
namespace Go.Proofs.YtbpmmmnphpkdjaaGreatDoor
open Go.RowKit Go.MapKept Go.Maps
set_option maxRecDepth 100000 in
theorem ackNil (v z : Int) (w : World) : Calls Tryz.prog 20 #[.pointer none, .int .i64 v, .int .i64 z] w fun e w' => e = .returned (.tuple #[.int .i64 0, .int .i64 2]) ∧ w = w' := by
  go_enter Tryz.func20, Tryz.ntmps20
  go_wp2_with fail
  go_ret2
  exact ⟨rfl, rfl⟩
set_option maxRecDepth 100000 in
theorem ackedNil (v : Int) (w : World) : Calls Tryz.prog 39 #[.pointer none, .int .i64 v] w fun e w' => e = .returned (.int .i64 0) ∧ w = w' := by
  go_enter Tryz.func39, Tryz.ntmps39
  go_wp2_with fail
  go_ret
  exact ⟨rfl, rfl⟩
set_option maxRecDepth 100000 in
theorem clearNil  (w : World) : Calls Tryz.prog 25 #[.pointer none] w fun e w' => e = .returned (.slice none 0 0) ∧ w = w' := by
  go_enter Tryz.func25, Tryz.ntmps25
  go_wp2_with fail
  go_ret
  exact ⟨rfl, rfl⟩
set_option maxRecDepth 100000 in
theorem lenNil  (w : World) : Calls Tryz.prog 26 #[.pointer none] w fun e w' => e = .returned (.int .i64 0) ∧ w = w' := by
  go_enter Tryz.func26, Tryz.ntmps26
  go_wp2_with fail
  go_ret
  exact ⟨rfl, rfl⟩
set_option maxRecDepth 100000 in
theorem lastNil  (w : World) : Calls Tryz.prog 28 #[.pointer none] w fun e w' => e = .returned (.int .i64 0) ∧ w = w' := by
  go_enter Tryz.func28, Tryz.ntmps28
  go_wp2_with fail
  go_ret
  exact ⟨rfl, rfl⟩
set_option maxRecDepth 100000 in
theorem committedNil  (w : World) : Calls Tryz.prog 33 #[.pointer none] w fun e w' => e = .returned (.int .i64 0) ∧ w = w' := by
  go_enter Tryz.func33, Tryz.ntmps33
  go_wp2_with fail
  go_ret
  exact ⟨rfl, rfl⟩
theorem lenNil_q (w : World) (q : Nat) : Calls Tryz.prog 26 #[.pointer none] (w.drewN q) fun e w' => e = .returned (.int .i64 0) ∧ ∃ n, w' = w.drewN n :=
  (lenNil (w.drewN q)).mono fun _ _ h => ⟨h.1, q, h.2.symm⟩
set_option maxRecDepth 100000 in
theorem fullNil (w : World) : Calls Tryz.prog 34 #[.pointer none] w (RetV (.bool true) w) := by
  go_enter Tryz.func34, Tryz.ntmps34
  go_wp2_with fail
  go_quiet (fail)
  go_wp2_with fail
  go_ret
  exact RetV.mk rfl _ rfl
set_option maxRecDepth 100000 in
theorem readyNil (w : World) : Calls Tryz.prog 21 #[.pointer none] w (ChsP 0 w) := by
  go_enter Tryz.func21, Tryz.ntmps21
  go_wp2_with fail
  go_ret
  exact ChsP.mk rfl ((Below.refl _ w).alloc (Nat.le_refl _) _)
set_option linter.unusedSimpArgs false in
set_option maxRecDepth 100000 in
set_option maxHeartbeats 20000000 in
theorem pushNil (h : PrH) (w : World) : Calls Tryz.prog 19 #[.pointer none, prV h] w fun e w' => e = .returned (.int .i64 2) ∧ Below w.heap.size w w' := by
  go_enter Tryz.func19, Tryz.ntmps19
  go_wp2_with fail
  go_ret
  exact ⟨rfl, (Below.refl _ w).alloc (Nat.le_refl _) _⟩
set_option linter.unusedSimpArgs false in
set_option maxRecDepth 100000 in
set_option maxHeartbeats 20000000 in
theorem getNil (i : Int) (w : World) : Calls Tryz.prog 37 #[.pointer none, .int .i64 i] w (GetNo w) := by
  have HG0 := Lib.hid (heap_s0 w (.cells #[.int .i64 0, .int .i32 0, .int .i64 0, .int .i64 0, .int .i32 0, .string ⟨#[]⟩, .slice none 0 0, .slice none 0 0, .int .i64 0, .int .i32 0, .int .i32 0, .bool false, .int .i64 0, .int .i64 0, .int .i64 0, .int .i32 0, .slice none 0 0, .slice none 0 0, .int .i32 0, .slice none 0 0, .int .i32 0, .int .i64 0, .int .i32 0, .int .i32 0, .int .i32 0, .string ⟨#[]⟩, .int .i64 0, .int .i64 0, .int .i64 0, .int .i64 0, .int .i32 0, .int .i32 0, .int .i32 0, .int .i64 0, .int .i32 0, .int .i32 0, .int .i64 0, .slice none 0 0, .slice none 0 0, .slice none 0 0, .int .i32 0, .int .i64 0, .int .i32 0, .slice none 0 0, .slice none 0 0] 63))
  have HB1 := Lib.hid (show Below w.heap.size w (w.alloc (.cells #[.int .i64 0, .int .i32 0, .int .i64 0, .int .i64 0, .int .i32 0, .string ⟨#[]⟩, .slice none 0 0, .slice none 0 0, .int .i64 0, .int .i32 0, .int .i32 0, .bool false, .int .i64 0, .int .i64 0, .int .i64 0, .int .i32 0, .slice none 0 0, .slice none 0 0, .int .i32 0, .slice none 0 0, .int .i32 0, .int .i64 0, .int .i32 0, .int .i32 0, .int .i32 0, .string ⟨#[]⟩, .int .i64 0, .int .i64 0, .int .i64 0, .int .i64 0, .int .i32 0, .int .i32 0, .int .i32 0, .int .i64 0, .int .i32 0, .int .i32 0, .int .i64 0, .slice none 0 0, .slice none 0 0, .slice none 0 0, .int .i32 0, .int .i64 0, .int .i32 0, .slice none 0 0, .slice none 0 0] 63)) from (Below.refl _ w).alloc (Nat.le_refl _) _)
  by_cases h0 : i < 0
  · have b0 : decide (i < 0) = true := decide_eq_true h0
    clear h0
    go_enter Tryz.func37, Tryz.ntmps37
    go_wp2_with (first
      | (refine wpList_bd63 rfl rfl ?_)
      | (apply wpList_storeTop 63 63; exact rfl; exact rfl; exact rfl; (first | (with_reducible rfl) | (exact sz1 _ _) | (exact sz2 _ _ _) | (exact sz3 _ _ _ _)); exact rfl; exact infPr; exact rfl; (first | exact onePr _ | simp [Value.oneCell']))
      | fail)
    refine bodyPost_cellT rfl rfl rfl HG0.out undPr rfl infPr rfl ⟨rfl, HB1.out⟩
  · have b0 : decide (i < 0) = false := decide_eq_false h0
    have b1 : decide (0 ≤ i) = true := decide_eq_true (by omega)
    clear h0
    go_enter Tryz.func37, Tryz.ntmps37
    go_wp2_with fail
    refine (lenNil _).mono ?_
    rintro e w2 ⟨rfl, rfl⟩
    go_wp2_with (first
      | (refine wpList_bd63 rfl rfl ?_)
      | (apply wpList_storeTop 63 63; exact rfl; exact rfl; exact rfl; (first | (with_reducible rfl) | (exact sz1 _ _) | (exact sz2 _ _ _) | (exact sz3 _ _ _ _)); exact rfl; exact infPr; exact rfl; (first | exact onePr _ | simp [Value.oneCell']))
      | fail)
    refine bodyPost_cellT rfl rfl rfl HG0.out undPr rfl infPr rfl ⟨rfl, HB1.out⟩
set_option linter.unusedSimpArgs false in
set_option maxRecDepth 100000 in
set_option maxHeartbeats 20000000 in
theorem firstNil (w : World) : Calls Tryz.prog 31 #[.pointer none] w (GetNo w) := by
  have hb1 : Below w.heap.size w (w.alloc (.cells #[.int .i64 0, .int .i32 0, .int .i64 0, .int .i64 0, .int .i32 0, .string ⟨#[]⟩, .slice none 0 0, .slice none 0 0, .int .i64 0, .int .i32 0, .int .i32 0, .bool false, .int .i64 0, .int .i64 0, .int .i64 0, .int .i32 0, .slice none 0 0, .slice none 0 0, .int .i32 0, .slice none 0 0, .int .i32 0, .int .i64 0, .int .i32 0, .int .i32 0, .int .i32 0, .string ⟨#[]⟩, .int .i64 0, .int .i64 0, .int .i64 0, .int .i64 0, .int .i32 0, .int .i32 0, .int .i32 0, .int .i64 0, .int .i32 0, .int .i32 0, .int .i64 0, .slice none 0 0, .slice none 0 0, .slice none 0 0, .int .i32 0, .int .i64 0, .int .i32 0, .slice none 0 0, .slice none 0 0] 63)) := (Below.refl _ w).alloc (Nat.le_refl _) _
  have HG0 := Lib.hid (heap_s0 w (.cells #[.int .i64 0, .int .i32 0, .int .i64 0, .int .i64 0, .int .i32 0, .string ⟨#[]⟩, .slice none 0 0, .slice none 0 0, .int .i64 0, .int .i32 0, .int .i32 0, .bool false, .int .i64 0, .int .i64 0, .int .i64 0, .int .i32 0, .slice none 0 0, .slice none 0 0, .int .i32 0, .slice none 0 0, .int .i32 0, .int .i64 0, .int .i32 0, .int .i32 0, .int .i32 0, .string ⟨#[]⟩, .int .i64 0, .int .i64 0, .int .i64 0, .int .i64 0, .int .i32 0, .int .i32 0, .int .i32 0, .int .i64 0, .int .i32 0, .int .i32 0, .int .i64 0, .slice none 0 0, .slice none 0 0, .slice none 0 0, .int .i32 0, .int .i64 0, .int .i32 0, .slice none 0 0, .slice none 0 0] 63)); have HB1 := Lib.hid hb1; have HS0 := Lib.hid (sz1 w (.cells #[.int .i64 0, .int .i32 0, .int .i64 0, .int .i64 0, .int .i32 0, .string ⟨#[]⟩, .slice none 0 0, .slice none 0 0, .int .i64 0, .int .i32 0, .int .i32 0, .bool false, .int .i64 0, .int .i64 0, .int .i64 0, .int .i32 0, .slice none 0 0, .slice none 0 0, .int .i32 0, .slice none 0 0, .int .i32 0, .int .i64 0, .int .i32 0, .int .i32 0, .int .i32 0, .string ⟨#[]⟩, .int .i64 0, .int .i64 0, .int .i64 0, .int .i64 0, .int .i32 0, .int .i32 0, .int .i32 0, .int .i64 0, .int .i32 0, .int .i32 0, .int .i64 0, .slice none 0 0, .slice none 0 0, .slice none 0 0, .int .i32 0, .int .i64 0, .int .i32 0, .slice none 0 0, .slice none 0 0] 63))
  clear hb1
  go_enter Tryz.func31, Tryz.ntmps31
  go_wp2_with fail
  refine (getNil 0 _).mono ?_
  rintro e w3 ⟨rfl, hb3⟩
  have hg3 := (hb3.block w.heap.size (by have := HS0.out; omega)).trans HG0.out
  have HB3 := Lib.hid (HB1.out.trans (hb3.mono HB1.out.size))
  clear hb3
  go_wp2_with (first
    | (apply wpList_storeRow 63 63; exact rfl; exact rfl; exact rfl; exact rfl; (first | assumption | (refine heap_under ?_; assumption) | (exact heap_s0 _ _) | (exact heap_s1 _ _ _) | (exact heap_s2 _ _ _ _) | (exact heap_s3 _ _ _ _ _) | (exact heap_under (heap_s0 _ _)) | (exact heap_under (heap_s1 _ _ _)) | (exact heap_under (heap_s2 _ _ _ _)) | (exact heap_under (heap_under (heap_s0 _ _))) | (exact heap_under (heap_under (heap_s1 _ _ _))) | (exact heap_under (heap_under (heap_under (heap_s0 _ _))))); exact infPr; exact rfl; (first | exact onePr _ | simp [Value.oneCell']))
    | fail)
  exact bodyPost_cellT rfl rfl rfl (setRow_heap _ _ _ _ _ _ hg3) undPr rfl infPr rfl ⟨rfl, below_setRow HB3.out (Nat.le_refl _) _⟩
set_option linter.unusedSimpArgs false in
set_option maxRecDepth 100000 in
set_option maxHeartbeats 20000000 in
theorem commitNil (w : World) : Calls Tryz.prog 22 #[.pointer none] w (GetNo w) := by
  have hb1 : Below w.heap.size w (w.alloc (.cells #[.int .i64 0, .int .i32 0, .int .i64 0, .int .i64 0, .int .i32 0, .string ⟨#[]⟩, .slice none 0 0, .slice none 0 0, .int .i64 0, .int .i32 0, .int .i32 0, .bool false, .int .i64 0, .int .i64 0, .int .i64 0, .int .i32 0, .slice none 0 0, .slice none 0 0, .int .i32 0, .slice none 0 0, .int .i32 0, .int .i64 0, .int .i32 0, .int .i32 0, .int .i32 0, .string ⟨#[]⟩, .int .i64 0, .int .i64 0, .int .i64 0, .int .i64 0, .int .i32 0, .int .i32 0, .int .i32 0, .int .i64 0, .int .i32 0, .int .i32 0, .int .i64 0, .slice none 0 0, .slice none 0 0, .slice none 0 0, .int .i32 0, .int .i64 0, .int .i32 0, .slice none 0 0, .slice none 0 0] 63)) := (Below.refl _ w).alloc (Nat.le_refl _) _
  have HG0 := Lib.hid (heap_s0 w (.cells #[.int .i64 0, .int .i32 0, .int .i64 0, .int .i64 0, .int .i32 0, .string ⟨#[]⟩, .slice none 0 0, .slice none 0 0, .int .i64 0, .int .i32 0, .int .i32 0, .bool false, .int .i64 0, .int .i64 0, .int .i64 0, .int .i32 0, .slice none 0 0, .slice none 0 0, .int .i32 0, .slice none 0 0, .int .i32 0, .int .i64 0, .int .i32 0, .int .i32 0, .int .i32 0, .string ⟨#[]⟩, .int .i64 0, .int .i64 0, .int .i64 0, .int .i64 0, .int .i32 0, .int .i32 0, .int .i32 0, .int .i64 0, .int .i32 0, .int .i32 0, .int .i64 0, .slice none 0 0, .slice none 0 0, .slice none 0 0, .int .i32 0, .int .i64 0, .int .i32 0, .slice none 0 0, .slice none 0 0] 63)); have HB1 := Lib.hid hb1; have HS0 := Lib.hid (sz1 w (.cells #[.int .i64 0, .int .i32 0, .int .i64 0, .int .i64 0, .int .i32 0, .string ⟨#[]⟩, .slice none 0 0, .slice none 0 0, .int .i64 0, .int .i32 0, .int .i32 0, .bool false, .int .i64 0, .int .i64 0, .int .i64 0, .int .i32 0, .slice none 0 0, .slice none 0 0, .int .i32 0, .slice none 0 0, .int .i32 0, .int .i64 0, .int .i32 0, .int .i32 0, .int .i32 0, .string ⟨#[]⟩, .int .i64 0, .int .i64 0, .int .i64 0, .int .i64 0, .int .i32 0, .int .i32 0, .int .i32 0, .int .i64 0, .int .i32 0, .int .i32 0, .int .i64 0, .slice none 0 0, .slice none 0 0, .slice none 0 0, .int .i32 0, .int .i64 0, .int .i32 0, .slice none 0 0, .slice none 0 0] 63))
  clear hb1
  go_enter Tryz.func22, Tryz.ntmps22
  go_wp2_with fail
  refine (readyNil _).mono ?_
  rintro e w3 ⟨rfl, hb3⟩
  have hg3 := (hb3.block w.heap.size (by have := HS0.out; omega)).trans HG0.out
  have HB3 := Lib.hid (HB1.out.trans (hb3.mono HB1.out.size))
  clear hb3
  go_wp2_with (first
    | (refine wpList_bd63 rfl rfl ?_)
    | (apply wpList_storeRow 63 63; exact rfl; exact rfl; exact rfl; exact rfl; (first | assumption | (refine heap_under ?_; assumption) | (exact heap_s0 _ _) | (exact heap_s1 _ _ _) | (exact heap_s2 _ _ _ _) | (exact heap_s3 _ _ _ _ _) | (exact heap_under (heap_s0 _ _)) | (exact heap_under (heap_s1 _ _ _)) | (exact heap_under (heap_s2 _ _ _ _)) | (exact heap_under (heap_under (heap_s0 _ _))) | (exact heap_under (heap_under (heap_s1 _ _ _))) | (exact heap_under (heap_under (heap_under (heap_s0 _ _))))); exact infPr; exact rfl; (first | exact onePr _ | simp [Value.oneCell']))
    | fail)
  exact bodyPost_cellT rfl rfl rfl (setRow_heap _ _ _ _ _ _ hg3) undPr rfl infPr rfl ⟨rfl, below_setRow HB3.out (Nat.le_refl _) _⟩
set_option maxRecDepth 100000 in
set_option maxHeartbeats 4000000 in
theorem findNil (z : Int) (w : World) : Calls Tryz.prog 38 #[.pointer none, .int .i64 z] w fun e w' => e = .returned (.tuple #[.int .i64 0, .bool false]) ∧ Below w.heap.size w w' := by
  have HB := Lib.hid (show Below w.heap.size w ((w.alloc (.cells #[.pointer none] 37)).alloc (.cells #[.int .i64 z] 2)) from ((Below.refl _ w).alloc (Nat.le_refl _) _).alloc (by simp) _)
  have c1 : ((w.alloc (.cells #[.pointer none] 37)).alloc (.cells #[.int .i64 z] 2)).cell? ⟨w.heap.size, 0, none⟩ = some (.pointer none) := by rw [cellH (heap_under (heap_s0 w _))]; rfl
  go_enter Tryz.func38, Tryz.ntmps38
  go_wp2_with fail
  generalize (w.alloc (.cells #[.pointer none] 37)).alloc (.cells #[.int .i64 z] 2) = W at *
  refine (lenNil _).mono ?_
  rintro e w2 ⟨rfl, rfl⟩
  have HS := Lib.hid (show Calls Tryz.prog 67 #[.int .i64 0, .func (.func 82) #[] #[.pointer (some ⟨w.heap.size, 0, none⟩), .pointer (some ⟨w.heap.size + 1, 0, none⟩)]] W (RetV (.int .i64 0) W) from search_any 82 _ (fun _ _ => rfl) 0 0 W (by decide) (by decide) (fun q i hi => absurd hi (by omega)))
  go_wp2_with fail
  refine HS.out.mono ?_
  rintro e w3 ⟨rfl, q, rfl⟩
  have HB3 := Lib.hid (drewN_below HB.out q)
  have c1' : (W.drewN q).cell? ⟨w.heap.size, 0, none⟩ = some (.pointer none) := c1
  clear HS HB c1
  generalize W.drewN q = V at *
  go_wp2_with fail
  go_quiet (exact lenNil_q _ _)
  go_wp2_with fail
  go_ret2
  exact ⟨rfl, drewN_below HB3.out _⟩
set_option linter.unusedSimpArgs false in
set_option maxRecDepth 100000 in
set_option maxHeartbeats 20000000 in
theorem queueNils_any (k n zz : Int) (h : PrH) (w : World) (hE : Env w) : Calls Tryz.prog 9 #[.agg (encQo (k, n, zz) h).toArray] w (RetB w true) := by
  have HE := Lib.hid hE; clear hE
  have hg0 := heap_s0 w (.cells (encQo (k, n, zz) h).toArray 77)
  have hb0 : Below w.heap.size w (w.alloc (.cells (encQo (k, n, zz) h).toArray 77)) := (Below.refl _ w).alloc (Nat.le_refl _) _
  have hs0 := sz1 w (.cells (encQo (k, n, zz) h).toArray 77)
  go_enter Tryz.func9, Tryz.ntmps9
  go_upto_region 2 with fail
  generalize w.alloc (.cells (encQo (k, n, zz) h).toArray 77) = W at *
  have HG := Lib.hid (show ∀ V : World, Below W.heap.size W V → V.heap[w.heap.size]? = some (.cells (encQo (k, n, zz) h).toArray 77 (0, 0)) from fun V hV => (hV.block _ (by omega)).trans hg0)
  have HB := Lib.hid hb0
  have HC1 := Lib.hid (show ∀ V : World, Below W.heap.size W V → V.cell? ⟨w.heap.size, 1, none⟩ = some (.int .i64 n) from fun V hV => by rw [cellH (HG.out V hV)]; rfl)
  have HC2 := Lib.hid (show ∀ V : World, Below W.heap.size W V → V.cell? ⟨w.heap.size, 2, none⟩ = some (.int .i64 zz) from fun V hV => by rw [cellH (HG.out V hV)]; rfl)
  have HRD := Lib.hid (show ∀ V : World, Below W.heap.size W V → V.rangeAt w.heap.size 3 [.int .i64 h.d.se, .int .i32 h.d.xi, .int .i64 h.d.zx, .int .i64 h.d.ti, .int .i32 h.d.t.n.ty, .string h.d.t.n.path, slV h.d.t.d, slV h.d.t.a, .int .i64 h.d.t.n.ow, .int .i32 h.d.t.n.ve, .int .i32 h.d.t.n.cr, .bool h.d.t.n.qh, .int .i64 h.d.t.n.qc, .int .i64 h.d.t.n.qb, .int .i64 h.d.t.n.si, .int .i32 h.d.t.n.st, slV h.d.t.i, slV h.d.t.p, .int .i32 h.d.t.n.co, slV h.d.t.s] from fun V hV => rangeAt_heapC (pre := [.int .i64 k, .int .i64 n, .int .i64 zz]) (mid := [.int .i64 h.d.se, .int .i32 h.d.xi, .int .i64 h.d.zx, .int .i64 h.d.ti, .int .i32 h.d.t.n.ty, .string h.d.t.n.path, slV h.d.t.d, slV h.d.t.a, .int .i64 h.d.t.n.ow, .int .i32 h.d.t.n.ve, .int .i32 h.d.t.n.cr, .bool h.d.t.n.qh, .int .i64 h.d.t.n.qc, .int .i64 h.d.t.n.qb, .int .i64 h.d.t.n.si, .int .i32 h.d.t.n.st, slV h.d.t.i, slV h.d.t.p, .int .i32 h.d.t.n.co, slV h.d.t.s]) (post := encRp h.r) (HG.out V hV) rfl rfl)
  have HRR := Lib.hid (show ∀ V : World, Below W.heap.size W V → V.rangeAt w.heap.size 23 [.int .i32 h.r.xi, .int .i64 h.r.zx, .int .i32 h.r.co, .int .i32 h.r.r.n.ty, .int .i32 h.r.r.n.co, .string h.r.r.n.path, .int .i64 h.r.r.n.q.a, .int .i64 h.r.r.n.q.b, .int .i64 h.r.r.n.q.c, .int .i64 h.r.r.n.q.d, .int .i32 h.r.r.n.q.e, .int .i32 h.r.r.n.q.f, .int .i32 h.r.r.n.q.g, .int .i64 h.r.r.n.q.h, .int .i32 h.r.r.n.q.i, .int .i32 h.r.r.n.q.j, .int .i64 h.r.r.n.q.k, slV h.r.r.d, slV h.r.r.a, slV h.r.r.m, .int .i32 h.r.r.n.ct, .int .i64 h.r.r.n.si, .int .i32 h.r.r.n.st, slV h.r.r.i, slV h.r.r.s] from fun V hV => rangeAt_heapC (pre := [.int .i64 k, .int .i64 n, .int .i64 zz] ++ encDl h.d) (mid := [.int .i32 h.r.xi, .int .i64 h.r.zx, .int .i32 h.r.co, .int .i32 h.r.r.n.ty, .int .i32 h.r.r.n.co, .string h.r.r.n.path, .int .i64 h.r.r.n.q.a, .int .i64 h.r.r.n.q.b, .int .i64 h.r.r.n.q.c, .int .i64 h.r.r.n.q.d, .int .i32 h.r.r.n.q.e, .int .i32 h.r.r.n.q.f, .int .i32 h.r.r.n.q.g, .int .i64 h.r.r.n.q.h, .int .i32 h.r.r.n.q.i, .int .i32 h.r.r.n.q.j, .int .i64 h.r.r.n.q.k, slV h.r.r.d, slV h.r.r.a, slV h.r.r.m, .int .i32 h.r.r.n.ct, .int .i64 h.r.r.n.si, .int .i32 h.r.r.n.st, slV h.r.r.i, slV h.r.r.s]) (post := []) (HG.out V hV) rfl rfl)
  clear hg0 hb0 hs0
  have x1 := HC1.out W (Below.refl _ _); have x2 := HC2.out W (Below.refl _ _)
  go_wp2_with fail
  refine (ackNil n zz _).mono ?_
  rintro e w' ⟨rfl, rfl⟩
  go_wp2_with fail
  refine (firstNil _).mono ?_
  rintro e w2 ⟨rfl, hb⟩
  have HB2 := Lib.hid (show Below W.heap.size W (w2.alloc (.cells #[.int .i64 0, .int .i32 0, .int .i64 0, .int .i64 0, .int .i32 0, .string ⟨#[]⟩, .slice none 0 0, .slice none 0 0, .int .i64 0, .int .i32 0, .int .i32 0, .bool false, .int .i64 0, .int .i64 0, .int .i64 0, .int .i32 0, .slice none 0 0, .slice none 0 0, .int .i32 0, .slice none 0 0, .int .i32 0, .int .i64 0, .int .i32 0, .int .i32 0, .int .i32 0, .string ⟨#[]⟩, .int .i64 0, .int .i64 0, .int .i64 0, .int .i64 0, .int .i32 0, .int .i32 0, .int .i32 0, .int .i64 0, .int .i32 0, .int .i32 0, .int .i64 0, .slice none 0 0, .slice none 0 0, .slice none 0 0, .int .i32 0, .int .i64 0, .int .i32 0, .slice none 0 0, .slice none 0 0] 63)) from hb.trans (((Below.refl _ w2).alloc (Nat.le_refl _) _).mono hb.size)); clear hb x1 x2
  go_upto_region 4 with (first
    | (apply wpList_storeTop 63 63; exact rfl; exact rfl; exact rfl; (first | (with_reducible rfl) | (exact sz1 _ _) | (exact sz2 _ _ _) | (exact sz3 _ _ _ _)); exact rfl; exact infPr; exact rfl; (first | exact onePr _ | simp [Value.oneCell']))
    | fail)
  change Code.wp _ _ _ _ (w2.alloc (.cells #[.int .i64 0, .int .i32 0, .int .i64 0, .int .i64 0, .int .i32 0, .string ⟨#[]⟩, .slice none 0 0, .slice none 0 0, .int .i64 0, .int .i32 0, .int .i32 0, .bool false, .int .i64 0, .int .i64 0, .int .i64 0, .int .i32 0, .slice none 0 0, .slice none 0 0, .int .i32 0, .slice none 0 0, .int .i32 0, .int .i64 0, .int .i32 0, .int .i32 0, .int .i32 0, .string ⟨#[]⟩, .int .i64 0, .int .i64 0, .int .i64 0, .int .i64 0, .int .i32 0, .int .i32 0, .int .i32 0, .int .i64 0, .int .i32 0, .int .i32 0, .int .i64 0, .slice none 0 0, .slice none 0 0, .slice none 0 0, .int .i32 0, .int .i64 0, .int .i32 0, .slice none 0 0, .slice none 0 0] 63))
  generalize w2.alloc (.cells #[.int .i64 0, .int .i32 0, .int .i64 0, .int .i64 0, .int .i32 0, .string ⟨#[]⟩, .slice none 0 0, .slice none 0 0, .int .i64 0, .int .i32 0, .int .i32 0, .bool false, .int .i64 0, .int .i64 0, .int .i64 0, .int .i32 0, .slice none 0 0, .slice none 0 0, .int .i32 0, .slice none 0 0, .int .i32 0, .int .i64 0, .int .i32 0, .int .i32 0, .int .i32 0, .string ⟨#[]⟩, .int .i64 0, .int .i64 0, .int .i64 0, .int .i64 0, .int .i32 0, .int .i32 0, .int .i32 0, .int .i64 0, .int .i32 0, .int .i32 0, .int .i64 0, .slice none 0 0, .slice none 0 0, .slice none 0 0, .int .i32 0, .int .i64 0, .int .i32 0, .slice none 0 0, .slice none 0 0] 63) = V2 at *
  go_wp2_with fail
  refine (commitNil _).mono ?_
  rintro e w3 ⟨rfl, hb⟩
  have HB3 := Lib.hid (show Below W.heap.size W (w3.alloc (.cells #[.int .i64 0, .int .i32 0, .int .i64 0, .int .i64 0, .int .i32 0, .string ⟨#[]⟩, .slice none 0 0, .slice none 0 0, .int .i64 0, .int .i32 0, .int .i32 0, .bool false, .int .i64 0, .int .i64 0, .int .i64 0, .int .i32 0, .slice none 0 0, .slice none 0 0, .int .i32 0, .slice none 0 0, .int .i32 0, .int .i64 0, .int .i32 0, .int .i32 0, .int .i32 0, .string ⟨#[]⟩, .int .i64 0, .int .i64 0, .int .i64 0, .int .i64 0, .int .i32 0, .int .i32 0, .int .i32 0, .int .i64 0, .int .i32 0, .int .i32 0, .int .i64 0, .slice none 0 0, .slice none 0 0, .slice none 0 0, .int .i32 0, .int .i64 0, .int .i32 0, .slice none 0 0, .slice none 0 0] 63)) from (HB2.out.trans (hb.mono HB2.out.size)).trans (((Below.refl _ w3).alloc (Nat.le_refl _) _).mono (Nat.le_trans HB2.out.size hb.size))); clear hb
  go_upto_region 5 with (first
    | (apply wpList_storeTop 63 63; exact rfl; exact rfl; exact rfl; (first | (with_reducible rfl) | (exact sz1 _ _) | (exact sz2 _ _ _) | (exact sz3 _ _ _ _)); exact rfl; exact infPr; exact rfl; (first | exact onePr _ | simp [Value.oneCell']))
    | fail)
  change Code.wp _ _ _ _ (w3.alloc (.cells #[.int .i64 0, .int .i32 0, .int .i64 0, .int .i64 0, .int .i32 0, .string ⟨#[]⟩, .slice none 0 0, .slice none 0 0, .int .i64 0, .int .i32 0, .int .i32 0, .bool false, .int .i64 0, .int .i64 0, .int .i64 0, .int .i32 0, .slice none 0 0, .slice none 0 0, .int .i32 0, .slice none 0 0, .int .i32 0, .int .i64 0, .int .i32 0, .int .i32 0, .int .i32 0, .string ⟨#[]⟩, .int .i64 0, .int .i64 0, .int .i64 0, .int .i64 0, .int .i32 0, .int .i32 0, .int .i32 0, .int .i64 0, .int .i32 0, .int .i32 0, .int .i64 0, .slice none 0 0, .slice none 0 0, .slice none 0 0, .int .i32 0, .int .i64 0, .int .i32 0, .slice none 0 0, .slice none 0 0] 63))
  generalize w3.alloc (.cells #[.int .i64 0, .int .i32 0, .int .i64 0, .int .i64 0, .int .i32 0, .string ⟨#[]⟩, .slice none 0 0, .slice none 0 0, .int .i64 0, .int .i32 0, .int .i32 0, .bool false, .int .i64 0, .int .i64 0, .int .i64 0, .int .i32 0, .slice none 0 0, .slice none 0 0, .int .i32 0, .slice none 0 0, .int .i32 0, .int .i64 0, .int .i32 0, .int .i32 0, .int .i32 0, .string ⟨#[]⟩, .int .i64 0, .int .i64 0, .int .i64 0, .int .i64 0, .int .i32 0, .int .i32 0, .int .i32 0, .int .i64 0, .int .i32 0, .int .i32 0, .int .i64 0, .slice none 0 0, .slice none 0 0, .slice none 0 0, .int .i32 0, .int .i64 0, .int .i32 0, .slice none 0 0, .slice none 0 0] 63) = V3 at *
  have x1 := HC1.out V3 HB3.out
  go_wp2_with fail
  refine (getNil n _).mono ?_
  rintro e w4 ⟨rfl, hb⟩
  have HB4 := Lib.hid (show Below W.heap.size W (w4.alloc (.cells #[.int .i64 0, .int .i32 0, .int .i64 0, .int .i64 0, .int .i32 0, .string ⟨#[]⟩, .slice none 0 0, .slice none 0 0, .int .i64 0, .int .i32 0, .int .i32 0, .bool false, .int .i64 0, .int .i64 0, .int .i64 0, .int .i32 0, .slice none 0 0, .slice none 0 0, .int .i32 0, .slice none 0 0, .int .i32 0, .int .i64 0, .int .i32 0, .int .i32 0, .int .i32 0, .string ⟨#[]⟩, .int .i64 0, .int .i64 0, .int .i64 0, .int .i64 0, .int .i32 0, .int .i32 0, .int .i32 0, .int .i64 0, .int .i32 0, .int .i32 0, .int .i64 0, .slice none 0 0, .slice none 0 0, .slice none 0 0, .int .i32 0, .int .i64 0, .int .i32 0, .slice none 0 0, .slice none 0 0] 63)) from (HB3.out.trans (hb.mono HB3.out.size)).trans (((Below.refl _ w4).alloc (Nat.le_refl _) _).mono (Nat.le_trans HB3.out.size hb.size))); clear hb x1
  go_upto_region 6 with (first
    | (apply wpList_storeTop 63 63; exact rfl; exact rfl; exact rfl; (first | (with_reducible rfl) | (exact sz1 _ _) | (exact sz2 _ _ _) | (exact sz3 _ _ _ _)); exact rfl; exact infPr; exact rfl; (first | exact onePr _ | simp [Value.oneCell']))
    | fail)
  change Code.wp _ _ _ _ (w4.alloc (.cells #[.int .i64 0, .int .i32 0, .int .i64 0, .int .i64 0, .int .i32 0, .string ⟨#[]⟩, .slice none 0 0, .slice none 0 0, .int .i64 0, .int .i32 0, .int .i32 0, .bool false, .int .i64 0, .int .i64 0, .int .i64 0, .int .i32 0, .slice none 0 0, .slice none 0 0, .int .i32 0, .slice none 0 0, .int .i32 0, .int .i64 0, .int .i32 0, .int .i32 0, .int .i32 0, .string ⟨#[]⟩, .int .i64 0, .int .i64 0, .int .i64 0, .int .i64 0, .int .i32 0, .int .i32 0, .int .i32 0, .int .i64 0, .int .i32 0, .int .i32 0, .int .i64 0, .slice none 0 0, .slice none 0 0, .slice none 0 0, .int .i32 0, .int .i64 0, .int .i32 0, .slice none 0 0, .slice none 0 0] 63))
  generalize w4.alloc (.cells #[.int .i64 0, .int .i32 0, .int .i64 0, .int .i64 0, .int .i32 0, .string ⟨#[]⟩, .slice none 0 0, .slice none 0 0, .int .i64 0, .int .i32 0, .int .i32 0, .bool false, .int .i64 0, .int .i64 0, .int .i64 0, .int .i32 0, .slice none 0 0, .slice none 0 0, .int .i32 0, .slice none 0 0, .int .i32 0, .int .i64 0, .int .i32 0, .int .i32 0, .int .i32 0, .string ⟨#[]⟩, .int .i64 0, .int .i64 0, .int .i64 0, .int .i64 0, .int .i32 0, .int .i32 0, .int .i32 0, .int .i64 0, .int .i32 0, .int .i32 0, .int .i64 0, .slice none 0 0, .slice none 0 0, .slice none 0 0, .int .i32 0, .int .i64 0, .int .i32 0, .slice none 0 0, .slice none 0 0] 63) = V4 at *
  have x2 := HC2.out V4 HB4.out
  go_wp2_with fail
  refine (findNil zz _).mono ?_
  rintro e w5 ⟨rfl, hb⟩
  have HB5 := Lib.hid (HB4.out.trans (hb.mono HB4.out.size)); clear hb x2
  have x1 := HC1.out w5 HB5.out
  have y1 := HRD.out w5 HB5.out; have y2 := HRR.out w5 HB5.out
  go_upto_region 7 with fail
  go_step
  go_step
  go_step
  go_step
  go_step
  apply wpList_loadMid 54
  case hgd => exact rfl
  case ho => exact rfl
  case hx => exact rfl
  case hc => exact y1
  case hu => exact undDl
  case hd => exact rfl
  case hi => exact infDl
  case h =>
  (try simp only [Act.put, List.setIfInBounds_toArray, List.set_cons_zero, List.set_cons_succ])
  go_step
  go_step
  apply wpList_loadMid 61
  case hgd => exact rfl
  case ho => exact rfl
  case hx => exact rfl
  case hc => exact y2
  case hu => exact undRp
  case hd => exact rfl
  case hi => exact infRp
  case h =>
  (try simp only [Act.put, List.setIfInBounds_toArray, List.set_cons_zero, List.set_cons_succ])
  clear y1 y2
  go_wp2_with fail
  refine (pushNil h _).mono ?_
  rintro e w6 ⟨rfl, hb⟩
  have HB6 := Lib.hid (HB5.out.trans (hb.mono HB5.out.size)); clear hb x1
  go_wp2_with fail
  refine (no26_any _ _).mono ?_
  rintro e w' ⟨rfl, rfl⟩
  go_wp2_with fail
  refine (no26_any _ _).mono ?_
  rintro e w' ⟨rfl, rfl⟩
  go_wp2_with fail
  refine (fullNil _).mono ?_
  rintro e w7 ⟨rfl, q, rfl⟩
  have HB7 := Lib.hid (show Below W.heap.size W (w6.drewN q) from drewN_below HB6.out q)
  have x1 := HC1.out (w6.drewN q) HB7.out
  generalize w6.drewN q = V7 at *
  go_wp2_with fail
  refine (ackedNil n _).mono ?_
  rintro e w' ⟨rfl, rfl⟩
  clear x1
  go_wp2_with fail
  refine (readyNil _).mono ?_
  rintro e w8 ⟨rfl, hb⟩
  have HB8 := Lib.hid (HB7.out.trans (hb.mono HB7.out.size)); clear hb
  go_wp2_with fail
  refine (clearNil _).mono ?_
  rintro e w' ⟨rfl, rfl⟩
  go_wp2_with fail
  refine (lenNil _).mono ?_
  rintro e w' ⟨rfl, rfl⟩
  go_wp2_with fail
  refine (lastNil _).mono ?_
  rintro e w' ⟨rfl, rfl⟩
  go_wp2_with fail
  refine (committedNil _).mono ?_
  rintro e w' ⟨rfl, rfl⟩
  have HBF := Lib.hid (HB.out.trans (HB8.out.mono HB.out.size))
  have HLV := Lib.hid (live26_any w8 (HE.out.below (Nat.le_refl _) HBF.out))
  go_wp2_with fail
  refine HLV.out.mono ?_
  rintro e w9 ⟨rfl, hb⟩
  have HB9 := Lib.hid (HBF.out.trans (hb.mono HBF.out.size)); clear hb
  go_wp2_with fail
  go_ret
  exact RetB.mk HB9.out rfl
end Go.Proofs.YtbpmmmnphpkdjaaGreatDoor

/- The walk of the document's spare of a transaction. Condition: bulk at most 2^20. -/
import Derived.Test.YthpjneobmmpbnaaGreatDoorDRfB
namespace Go.Proofs.YthpjneobmmpbnaaGreatDoor
open Go.RowKit Go.MapKept
theorem nil_dec {α : Type} [DecidableEq α] (l : List α) (n : Nat) (h : l.length = n) : decide (l ≠ []) = decide (0 < n) := by
  subst h
  cases l with
  | nil => rfl
  | cons x r => simp
theorem path_full {s : ByteArray} (h : s ≠ ByteArray.empty) : s.toList.isEmpty = false := nonempty s (fun e => h (empty_of s e))
theorem path_none {s : ByteArray} (h : ¬ s ≠ ByteArray.empty) : s.toList.isEmpty = true := by
  have : s = ByteArray.empty := Classical.byContradiction h
  rw [this, Lib.toList_data]; rfl
set_option linter.unusedSimpArgs false in
set_option maxRecDepth 100000 in
set_option maxHeartbeats 8000000 in
theorem refSpare_any (h : TxH) (v : TxF) (w : World) (R : Nat → Prop) (hv : locTx w R h v) :
    Calls Tryz.prog 98 #[txV h] w (RetB w (spareB v h.s.2.1)) := by
  have HAS := Lib.hid (has_all h.n.ty)
  have hn := hv.1
  have HSP := Lib.hid (show spareB v h.s.2.1 = (((!partB h.n.ty && decide (h.n.path ≠ ByteArray.empty)) || (!decide (h.n.ty = 1 ∨ h.n.ty = 5) && decide (0 < h.d.2.1)) || (!decide (h.n.ty = 1 ∨ h.n.ty = 7) && decide (0 < h.a.2.1)) || (!decide (h.n.ty = 1) && decide (h.n.ow ≠ 0)) || (!decide (h.n.ty = 1) && decide (h.n.cr ≠ 0)) || (!decide (h.n.ty = 5 ∨ h.n.ty = 7 ∨ h.n.ty = 13) && decide (h.n.ve ≠ 0))) || ((!decide (h.n.ty = 120) && (h.n.qh || decide (h.n.qc ≠ 0) || decide (h.n.qb ≠ 0))) || (!decide (h.n.ty = -11) && decide (0 < h.p.2.1)) || (!decide (h.n.ty = -1) && decide (h.n.co ≠ 0)) || (!decide (h.n.ty = 14) && decide (0 < h.s.2.1))) || (!decide (h.n.ty = -10) && (decide (h.n.si ≠ 0) || decide (h.n.st ≠ 0) || decide (0 < h.i.2.1)))) by
    unfold spareB
    rw [hn, nil_dec v.data _ hv.2.1.len, nil_dec v.acl _ hv.2.2.1.len, nil_dec v.paths _ hv.2.2.2.2.len, nil_dec v.ids _ hv.2.2.2.1.len, show decide (h.s.2.1 ≠ 0) = decide (0 < h.s.2.1) from by simp [Nat.pos_iff_ne_zero]]
    simp only [Bool.or_assoc])
  clear hn
  have hb0 : Below w.heap.size w (w.alloc (.cells #[.int .i32 h.n.ty, .string h.n.path, slV h.d, slV h.a, .int .i64 h.n.ow, .int .i32 h.n.ve, .int .i32 h.n.cr, .bool h.n.qh, .int .i64 h.n.qc, .int .i64 h.n.qb, .int .i64 h.n.si, .int .i32 h.n.st, slV h.i, slV h.p, .int .i32 h.n.co, slV h.s] 33)) := (Below.refl _ w).alloc (Nat.le_refl _) _
  have HG := Lib.hid (heap_s0 w (.cells #[.int .i32 h.n.ty, .string h.n.path, slV h.d, slV h.a, .int .i64 h.n.ow, .int .i32 h.n.ve, .int .i32 h.n.cr, .bool h.n.qh, .int .i64 h.n.qc, .int .i64 h.n.qb, .int .i64 h.n.si, .int .i32 h.n.st, slV h.i, slV h.p, .int .i32 h.n.co, slV h.s] 33))
  have HZ := Lib.hid (sz1 w (.cells #[.int .i32 h.n.ty, .string h.n.path, slV h.d, slV h.a, .int .i64 h.n.ow, .int .i32 h.n.ve, .int .i32 h.n.cr, .bool h.n.qh, .int .i64 h.n.qc, .int .i64 h.n.qb, .int .i64 h.n.si, .int .i32 h.n.st, slV h.i, slV h.p, .int .i32 h.n.co, slV h.s] 33))
  have HL := Lib.hid (hv.down hb0)
  have HB := Lib.hid hb0
  clear hb0
  unfold txV
  go_enter Tryz.func98, Tryz.ntmps98
  go_upto_region 1 with fail
  generalize w.alloc (.cells #[.int .i32 h.n.ty, .string h.n.path, slV h.d, slV h.a, .int .i64 h.n.ow, .int .i32 h.n.ve, .int .i32 h.n.cr, .bool h.n.qh, .int .i64 h.n.qc, .int .i64 h.n.qb, .int .i64 h.n.si, .int .i32 h.n.st, slV h.i, slV h.p, .int .i32 h.n.co, slV h.s] 33) = W at *
  have HC0 := Lib.hid (show ∀ V : World, Below W.heap.size W V → V.cell? ⟨w.heap.size, 0, none⟩ = some (.int .i32 h.n.ty) from fun V hV => by rw [cellH ((hV.block _ (by have := HZ.out; omega)).trans HG.out)]; rfl)
  have HC1 := Lib.hid (show ∀ V : World, Below W.heap.size W V → V.cell? ⟨w.heap.size, 1, none⟩ = some (.string h.n.path) from fun V hV => by rw [cellH ((hV.block _ (by have := HZ.out; omega)).trans HG.out)]; rfl)
  have HC2 := Lib.hid (show ∀ V : World, Below W.heap.size W V → V.cell? ⟨w.heap.size, 2, none⟩ = some (slV h.d) from fun V hV => by rw [cellH ((hV.block _ (by have := HZ.out; omega)).trans HG.out)]; rfl)
  have HC3 := Lib.hid (show ∀ V : World, Below W.heap.size W V → V.cell? ⟨w.heap.size, 3, none⟩ = some (slV h.a) from fun V hV => by rw [cellH ((hV.block _ (by have := HZ.out; omega)).trans HG.out)]; rfl)
  have HC4 := Lib.hid (show ∀ V : World, Below W.heap.size W V → V.cell? ⟨w.heap.size, 4, none⟩ = some (.int .i64 h.n.ow) from fun V hV => by rw [cellH ((hV.block _ (by have := HZ.out; omega)).trans HG.out)]; rfl)
  have HC5 := Lib.hid (show ∀ V : World, Below W.heap.size W V → V.cell? ⟨w.heap.size, 5, none⟩ = some (.int .i32 h.n.ve) from fun V hV => by rw [cellH ((hV.block _ (by have := HZ.out; omega)).trans HG.out)]; rfl)
  have HC6 := Lib.hid (show ∀ V : World, Below W.heap.size W V → V.cell? ⟨w.heap.size, 6, none⟩ = some (.int .i32 h.n.cr) from fun V hV => by rw [cellH ((hV.block _ (by have := HZ.out; omega)).trans HG.out)]; rfl)
  have HC7 := Lib.hid (show ∀ V : World, Below W.heap.size W V → V.cell? ⟨w.heap.size, 7, none⟩ = some (.bool h.n.qh) from fun V hV => by rw [cellH ((hV.block _ (by have := HZ.out; omega)).trans HG.out)]; rfl)
  have HC8 := Lib.hid (show ∀ V : World, Below W.heap.size W V → V.cell? ⟨w.heap.size, 8, none⟩ = some (.int .i64 h.n.qc) from fun V hV => by rw [cellH ((hV.block _ (by have := HZ.out; omega)).trans HG.out)]; rfl)
  have HC9 := Lib.hid (show ∀ V : World, Below W.heap.size W V → V.cell? ⟨w.heap.size, 9, none⟩ = some (.int .i64 h.n.qb) from fun V hV => by rw [cellH ((hV.block _ (by have := HZ.out; omega)).trans HG.out)]; rfl)
  have HC10 := Lib.hid (show ∀ V : World, Below W.heap.size W V → V.cell? ⟨w.heap.size, 10, none⟩ = some (.int .i64 h.n.si) from fun V hV => by rw [cellH ((hV.block _ (by have := HZ.out; omega)).trans HG.out)]; rfl)
  have HC11 := Lib.hid (show ∀ V : World, Below W.heap.size W V → V.cell? ⟨w.heap.size, 11, none⟩ = some (.int .i32 h.n.st) from fun V hV => by rw [cellH ((hV.block _ (by have := HZ.out; omega)).trans HG.out)]; rfl)
  have HC12 := Lib.hid (show ∀ V : World, Below W.heap.size W V → V.cell? ⟨w.heap.size, 12, none⟩ = some (slV h.i) from fun V hV => by rw [cellH ((hV.block _ (by have := HZ.out; omega)).trans HG.out)]; rfl)
  have HC13 := Lib.hid (show ∀ V : World, Below W.heap.size W V → V.cell? ⟨w.heap.size, 13, none⟩ = some (slV h.p) from fun V hV => by rw [cellH ((hV.block _ (by have := HZ.out; omega)).trans HG.out)]; rfl)
  have HC14 := Lib.hid (show ∀ V : World, Below W.heap.size W V → V.cell? ⟨w.heap.size, 14, none⟩ = some (.int .i32 h.n.co) from fun V hV => by rw [cellH ((hV.block _ (by have := HZ.out; omega)).trans HG.out)]; rfl)
  have HC15 := Lib.hid (show ∀ V : World, Below W.heap.size W V → V.cell? ⟨w.heap.size, 15, none⟩ = some (slV h.s) from fun V hV => by rw [cellH ((hV.block _ (by have := HZ.out; omega)).trans HG.out)]; rfl)
  generalize (Value.agg #[.int .i32 h.n.ty, .string h.n.path, slV h.d, slV h.a, .int .i64 h.n.ow, .int .i32 h.n.ve, .int .i32 h.n.cr, .bool h.n.qh, .int .i64 h.n.qc, .int .i64 h.n.qb, .int .i64 h.n.si, .int .i32 h.n.st, slV h.i, slV h.p, .int .i32 h.n.co, slV h.s]) = arg0 at *
  have x0 := HC0.out W (Below.refl _ _); have x1 := HC1.out W (Below.refl _ _); have x2 := HC2.out W (Below.refl _ _); have x3 := HC3.out W (Below.refl _ _); have x4 := HC4.out W (Below.refl _ _); have x5 := HC5.out W (Below.refl _ _); have x6 := HC6.out W (Below.refl _ _)
  generalize hb2 : ((!partB h.n.ty && decide (h.n.path ≠ ByteArray.empty)) || (!decide (h.n.ty = 1 ∨ h.n.ty = 5) && decide (0 < h.d.2.1)) || (!decide (h.n.ty = 1 ∨ h.n.ty = 7) && decide (0 < h.a.2.1)) || (!decide (h.n.ty = 1) && decide (h.n.ow ≠ 0)) || (!decide (h.n.ty = 1) && decide (h.n.cr ≠ 0)) || (!decide (h.n.ty = 5 ∨ h.n.ty = 7 ∨ h.n.ty = 13) && decide (h.n.ve ≠ 0))) = b2 at *
  have HB2 := Lib.hid hb2; clear hb2
  go_wp2_with fail
  refine (refFields_any _ _).mono ?_
  rintro e W ⟨rfl, rfl⟩
  go_upto_region 2 with fail
  go_cut [4] from 8 to 67 (fun bv wx => bv = .bool b2 ∧ wx = W)
  case first =>
    by_cases t_0 : h.n.ty = 1
    · have e_p : partB h.n.ty = true := by rw [t_0]; decide
      have c_p := fun W => hasF_any h.n.ty 112 W
      rw [HAS.out.1, e_p] at c_p
      have e_d : decide (h.n.ty = 1 ∨ h.n.ty = 5) = true := by rw [t_0]; decide
      have c_d := fun W => hasF_any h.n.ty 100 W
      rw [HAS.out.2.1, e_d] at c_d
      have e_a : decide (h.n.ty = 1 ∨ h.n.ty = 7) = true := by rw [t_0]; decide
      have c_a := fun W => hasF_any h.n.ty 97 W
      rw [HAS.out.2.2.1, e_a] at c_a
      have e_o : decide (h.n.ty = 1) = true := by rw [t_0]; decide
      have c_o := fun W => hasF_any h.n.ty 111 W
      rw [HAS.out.2.2.2.1, e_o] at c_o
      have e_n : decide (h.n.ty = 1) = true := by rw [t_0]; decide
      have c_n := fun W => hasF_any h.n.ty 110 W
      rw [HAS.out.2.2.2.2.1, e_n] at c_n
      have e_v : decide (h.n.ty = 5 ∨ h.n.ty = 7 ∨ h.n.ty = 13) = false := by rw [t_0]; decide
      have c_v := fun W => hasF_any h.n.ty 118 W
      rw [HAS.out.2.2.2.2.2.1, e_v] at c_v
      clear t_0
      by_cases k_v : h.n.ve ≠ 0
      · have f_v : (h.n.ve != 0) = true := bne_iff_ne.2 k_v; have K_v := Lib.hid k_v; clear k_v
        go_upto_region 3 with (first
    | (go_at_call 163; (with_reducible refine (c_p _).mono ?_); rintro e w9 ⟨rfl, rfl⟩)
    | (go_at_call 163; (with_reducible refine (c_d _).mono ?_); rintro e w9 ⟨rfl, rfl⟩)
    | (go_at_call 163; (with_reducible refine (c_a _).mono ?_); rintro e w9 ⟨rfl, rfl⟩)
    | (go_at_call 163; (with_reducible refine (c_o _).mono ?_); rintro e w9 ⟨rfl, rfl⟩)
    | (go_at_call 163; (with_reducible refine (c_n _).mono ?_); rintro e w9 ⟨rfl, rfl⟩)
    | (go_at_call 163; (with_reducible refine (c_v _).mono ?_); rintro e w9 ⟨rfl, rfl⟩)
    | fail)
        go_meet
        exact ⟨by rw [show b2 = true from by rw [← HB2.out]; simp only [e_p, e_d, e_a, e_o, e_n, e_v]; simp [K_v.out]], rfl⟩
      · have f_v : (h.n.ve != 0) = false := (by simpa using k_v); have K_v := Lib.hid k_v; clear k_v
        go_upto_region 3 with (first
    | (go_at_call 163; (with_reducible refine (c_p _).mono ?_); rintro e w9 ⟨rfl, rfl⟩)
    | (go_at_call 163; (with_reducible refine (c_d _).mono ?_); rintro e w9 ⟨rfl, rfl⟩)
    | (go_at_call 163; (with_reducible refine (c_a _).mono ?_); rintro e w9 ⟨rfl, rfl⟩)
    | (go_at_call 163; (with_reducible refine (c_o _).mono ?_); rintro e w9 ⟨rfl, rfl⟩)
    | (go_at_call 163; (with_reducible refine (c_n _).mono ?_); rintro e w9 ⟨rfl, rfl⟩)
    | (go_at_call 163; (with_reducible refine (c_v _).mono ?_); rintro e w9 ⟨rfl, rfl⟩)
    | fail)
        go_meet
        exact ⟨by rw [show b2 = false from by rw [← HB2.out]; simp only [e_p, e_d, e_a, e_o, e_n, e_v]; simp [K_v.out]], rfl⟩
    by_cases t_1 : h.n.ty = 5
    · have e_p : partB h.n.ty = true := by rw [t_1]; decide
      have c_p := fun W => hasF_any h.n.ty 112 W
      rw [HAS.out.1, e_p] at c_p
      have e_d : decide (h.n.ty = 1 ∨ h.n.ty = 5) = true := by rw [t_1]; decide
      have c_d := fun W => hasF_any h.n.ty 100 W
      rw [HAS.out.2.1, e_d] at c_d
      have e_a : decide (h.n.ty = 1 ∨ h.n.ty = 7) = false := by rw [t_1]; decide
      have c_a := fun W => hasF_any h.n.ty 97 W
      rw [HAS.out.2.2.1, e_a] at c_a
      have e_o : decide (h.n.ty = 1) = false := by rw [t_1]; decide
      have c_o := fun W => hasF_any h.n.ty 111 W
      rw [HAS.out.2.2.2.1, e_o] at c_o
      have e_n : decide (h.n.ty = 1) = false := by rw [t_1]; decide
      have c_n := fun W => hasF_any h.n.ty 110 W
      rw [HAS.out.2.2.2.2.1, e_n] at c_n
      have e_v : decide (h.n.ty = 5 ∨ h.n.ty = 7 ∨ h.n.ty = 13) = true := by rw [t_1]; decide
      have c_v := fun W => hasF_any h.n.ty 118 W
      rw [HAS.out.2.2.2.2.2.1, e_v] at c_v
      clear t_1
      by_cases k_a : 0 < h.a.2.1
      · have f_a : decide (0 < h.a.2.1) = true := decide_eq_true k_a; have K_a := Lib.hid k_a; clear k_a
        go_upto_region 3 with (first
    | (go_at_call 163; (with_reducible refine (c_p _).mono ?_); rintro e w9 ⟨rfl, rfl⟩)
    | (go_at_call 163; (with_reducible refine (c_d _).mono ?_); rintro e w9 ⟨rfl, rfl⟩)
    | (go_at_call 163; (with_reducible refine (c_a _).mono ?_); rintro e w9 ⟨rfl, rfl⟩)
    | (go_at_call 163; (with_reducible refine (c_o _).mono ?_); rintro e w9 ⟨rfl, rfl⟩)
    | (go_at_call 163; (with_reducible refine (c_n _).mono ?_); rintro e w9 ⟨rfl, rfl⟩)
    | (go_at_call 163; (with_reducible refine (c_v _).mono ?_); rintro e w9 ⟨rfl, rfl⟩)
    | fail)
        go_meet
        exact ⟨by rw [show b2 = true from by rw [← HB2.out]; simp only [e_p, e_d, e_a, e_o, e_n, e_v]; simp [K_a.out]], rfl⟩
      · have f_a : decide (0 < h.a.2.1) = false := decide_eq_false k_a; have K_a := Lib.hid k_a; clear k_a
        by_cases k_o : h.n.ow ≠ 0
        · have f_o : (h.n.ow != 0) = true := bne_iff_ne.2 k_o; have K_o := Lib.hid k_o; clear k_o
          go_upto_region 3 with (first
    | (go_at_call 163; (with_reducible refine (c_p _).mono ?_); rintro e w9 ⟨rfl, rfl⟩)
    | (go_at_call 163; (with_reducible refine (c_d _).mono ?_); rintro e w9 ⟨rfl, rfl⟩)
    | (go_at_call 163; (with_reducible refine (c_a _).mono ?_); rintro e w9 ⟨rfl, rfl⟩)
    | (go_at_call 163; (with_reducible refine (c_o _).mono ?_); rintro e w9 ⟨rfl, rfl⟩)
    | (go_at_call 163; (with_reducible refine (c_n _).mono ?_); rintro e w9 ⟨rfl, rfl⟩)
    | (go_at_call 163; (with_reducible refine (c_v _).mono ?_); rintro e w9 ⟨rfl, rfl⟩)
    | fail)
          go_meet
          exact ⟨by rw [show b2 = true from by rw [← HB2.out]; simp only [e_p, e_d, e_a, e_o, e_n, e_v]; simp [K_a.out, K_o.out]], rfl⟩
        · have f_o : (h.n.ow != 0) = false := (by simpa using k_o); have K_o := Lib.hid k_o; clear k_o
          by_cases k_n : h.n.cr ≠ 0
          · have f_n : (h.n.cr != 0) = true := bne_iff_ne.2 k_n; have K_n := Lib.hid k_n; clear k_n
            go_upto_region 3 with (first
    | (go_at_call 163; (with_reducible refine (c_p _).mono ?_); rintro e w9 ⟨rfl, rfl⟩)
    | (go_at_call 163; (with_reducible refine (c_d _).mono ?_); rintro e w9 ⟨rfl, rfl⟩)
    | (go_at_call 163; (with_reducible refine (c_a _).mono ?_); rintro e w9 ⟨rfl, rfl⟩)
    | (go_at_call 163; (with_reducible refine (c_o _).mono ?_); rintro e w9 ⟨rfl, rfl⟩)
    | (go_at_call 163; (with_reducible refine (c_n _).mono ?_); rintro e w9 ⟨rfl, rfl⟩)
    | (go_at_call 163; (with_reducible refine (c_v _).mono ?_); rintro e w9 ⟨rfl, rfl⟩)
    | fail)
            go_meet
            exact ⟨by rw [show b2 = true from by rw [← HB2.out]; simp only [e_p, e_d, e_a, e_o, e_n, e_v]; simp [K_a.out, K_o.out, K_n.out]], rfl⟩
          · have f_n : (h.n.cr != 0) = false := (by simpa using k_n); have K_n := Lib.hid k_n; clear k_n
            go_upto_region 3 with (first
    | (go_at_call 163; (with_reducible refine (c_p _).mono ?_); rintro e w9 ⟨rfl, rfl⟩)
    | (go_at_call 163; (with_reducible refine (c_d _).mono ?_); rintro e w9 ⟨rfl, rfl⟩)
    | (go_at_call 163; (with_reducible refine (c_a _).mono ?_); rintro e w9 ⟨rfl, rfl⟩)
    | (go_at_call 163; (with_reducible refine (c_o _).mono ?_); rintro e w9 ⟨rfl, rfl⟩)
    | (go_at_call 163; (with_reducible refine (c_n _).mono ?_); rintro e w9 ⟨rfl, rfl⟩)
    | (go_at_call 163; (with_reducible refine (c_v _).mono ?_); rintro e w9 ⟨rfl, rfl⟩)
    | fail)
            go_meet
            exact ⟨by rw [show b2 = false from by rw [← HB2.out]; simp only [e_p, e_d, e_a, e_o, e_n, e_v]; simp [K_a.out, K_o.out, K_n.out]], rfl⟩
    by_cases t_2 : h.n.ty = 7
    · have e_p : partB h.n.ty = true := by rw [t_2]; decide
      have c_p := fun W => hasF_any h.n.ty 112 W
      rw [HAS.out.1, e_p] at c_p
      have e_d : decide (h.n.ty = 1 ∨ h.n.ty = 5) = false := by rw [t_2]; decide
      have c_d := fun W => hasF_any h.n.ty 100 W
      rw [HAS.out.2.1, e_d] at c_d
      have e_a : decide (h.n.ty = 1 ∨ h.n.ty = 7) = true := by rw [t_2]; decide
      have c_a := fun W => hasF_any h.n.ty 97 W
      rw [HAS.out.2.2.1, e_a] at c_a
      have e_o : decide (h.n.ty = 1) = false := by rw [t_2]; decide
      have c_o := fun W => hasF_any h.n.ty 111 W
      rw [HAS.out.2.2.2.1, e_o] at c_o
      have e_n : decide (h.n.ty = 1) = false := by rw [t_2]; decide
      have c_n := fun W => hasF_any h.n.ty 110 W
      rw [HAS.out.2.2.2.2.1, e_n] at c_n
      have e_v : decide (h.n.ty = 5 ∨ h.n.ty = 7 ∨ h.n.ty = 13) = true := by rw [t_2]; decide
      have c_v := fun W => hasF_any h.n.ty 118 W
      rw [HAS.out.2.2.2.2.2.1, e_v] at c_v
      clear t_2
      by_cases k_d : 0 < h.d.2.1
      · have f_d : decide (0 < h.d.2.1) = true := decide_eq_true k_d; have K_d := Lib.hid k_d; clear k_d
        go_upto_region 3 with (first
    | (go_at_call 163; (with_reducible refine (c_p _).mono ?_); rintro e w9 ⟨rfl, rfl⟩)
    | (go_at_call 163; (with_reducible refine (c_d _).mono ?_); rintro e w9 ⟨rfl, rfl⟩)
    | (go_at_call 163; (with_reducible refine (c_a _).mono ?_); rintro e w9 ⟨rfl, rfl⟩)
    | (go_at_call 163; (with_reducible refine (c_o _).mono ?_); rintro e w9 ⟨rfl, rfl⟩)
    | (go_at_call 163; (with_reducible refine (c_n _).mono ?_); rintro e w9 ⟨rfl, rfl⟩)
    | (go_at_call 163; (with_reducible refine (c_v _).mono ?_); rintro e w9 ⟨rfl, rfl⟩)
    | fail)
        go_meet
        exact ⟨by rw [show b2 = true from by rw [← HB2.out]; simp only [e_p, e_d, e_a, e_o, e_n, e_v]; simp [K_d.out]], rfl⟩
      · have f_d : decide (0 < h.d.2.1) = false := decide_eq_false k_d; have K_d := Lib.hid k_d; clear k_d
        by_cases k_o : h.n.ow ≠ 0
        · have f_o : (h.n.ow != 0) = true := bne_iff_ne.2 k_o; have K_o := Lib.hid k_o; clear k_o
          go_upto_region 3 with (first
    | (go_at_call 163; (with_reducible refine (c_p _).mono ?_); rintro e w9 ⟨rfl, rfl⟩)
    | (go_at_call 163; (with_reducible refine (c_d _).mono ?_); rintro e w9 ⟨rfl, rfl⟩)
    | (go_at_call 163; (with_reducible refine (c_a _).mono ?_); rintro e w9 ⟨rfl, rfl⟩)
    | (go_at_call 163; (with_reducible refine (c_o _).mono ?_); rintro e w9 ⟨rfl, rfl⟩)
    | (go_at_call 163; (with_reducible refine (c_n _).mono ?_); rintro e w9 ⟨rfl, rfl⟩)
    | (go_at_call 163; (with_reducible refine (c_v _).mono ?_); rintro e w9 ⟨rfl, rfl⟩)
    | fail)
          go_meet
          exact ⟨by rw [show b2 = true from by rw [← HB2.out]; simp only [e_p, e_d, e_a, e_o, e_n, e_v]; simp [K_d.out, K_o.out]], rfl⟩
        · have f_o : (h.n.ow != 0) = false := (by simpa using k_o); have K_o := Lib.hid k_o; clear k_o
          by_cases k_n : h.n.cr ≠ 0
          · have f_n : (h.n.cr != 0) = true := bne_iff_ne.2 k_n; have K_n := Lib.hid k_n; clear k_n
            go_upto_region 3 with (first
    | (go_at_call 163; (with_reducible refine (c_p _).mono ?_); rintro e w9 ⟨rfl, rfl⟩)
    | (go_at_call 163; (with_reducible refine (c_d _).mono ?_); rintro e w9 ⟨rfl, rfl⟩)
    | (go_at_call 163; (with_reducible refine (c_a _).mono ?_); rintro e w9 ⟨rfl, rfl⟩)
    | (go_at_call 163; (with_reducible refine (c_o _).mono ?_); rintro e w9 ⟨rfl, rfl⟩)
    | (go_at_call 163; (with_reducible refine (c_n _).mono ?_); rintro e w9 ⟨rfl, rfl⟩)
    | (go_at_call 163; (with_reducible refine (c_v _).mono ?_); rintro e w9 ⟨rfl, rfl⟩)
    | fail)
            go_meet
            exact ⟨by rw [show b2 = true from by rw [← HB2.out]; simp only [e_p, e_d, e_a, e_o, e_n, e_v]; simp [K_d.out, K_o.out, K_n.out]], rfl⟩
          · have f_n : (h.n.cr != 0) = false := (by simpa using k_n); have K_n := Lib.hid k_n; clear k_n
            go_upto_region 3 with (first
    | (go_at_call 163; (with_reducible refine (c_p _).mono ?_); rintro e w9 ⟨rfl, rfl⟩)
    | (go_at_call 163; (with_reducible refine (c_d _).mono ?_); rintro e w9 ⟨rfl, rfl⟩)
    | (go_at_call 163; (with_reducible refine (c_a _).mono ?_); rintro e w9 ⟨rfl, rfl⟩)
    | (go_at_call 163; (with_reducible refine (c_o _).mono ?_); rintro e w9 ⟨rfl, rfl⟩)
    | (go_at_call 163; (with_reducible refine (c_n _).mono ?_); rintro e w9 ⟨rfl, rfl⟩)
    | (go_at_call 163; (with_reducible refine (c_v _).mono ?_); rintro e w9 ⟨rfl, rfl⟩)
    | fail)
            go_meet
            exact ⟨by rw [show b2 = false from by rw [← HB2.out]; simp only [e_p, e_d, e_a, e_o, e_n, e_v]; simp [K_d.out, K_o.out, K_n.out]], rfl⟩
    by_cases t_3 : h.n.ty = 13
    · have e_p : partB h.n.ty = true := by rw [t_3]; decide
      have c_p := fun W => hasF_any h.n.ty 112 W
      rw [HAS.out.1, e_p] at c_p
      have e_d : decide (h.n.ty = 1 ∨ h.n.ty = 5) = false := by rw [t_3]; decide
      have c_d := fun W => hasF_any h.n.ty 100 W
      rw [HAS.out.2.1, e_d] at c_d
      have e_a : decide (h.n.ty = 1 ∨ h.n.ty = 7) = false := by rw [t_3]; decide
      have c_a := fun W => hasF_any h.n.ty 97 W
      rw [HAS.out.2.2.1, e_a] at c_a
      have e_o : decide (h.n.ty = 1) = false := by rw [t_3]; decide
      have c_o := fun W => hasF_any h.n.ty 111 W
      rw [HAS.out.2.2.2.1, e_o] at c_o
      have e_n : decide (h.n.ty = 1) = false := by rw [t_3]; decide
      have c_n := fun W => hasF_any h.n.ty 110 W
      rw [HAS.out.2.2.2.2.1, e_n] at c_n
      have e_v : decide (h.n.ty = 5 ∨ h.n.ty = 7 ∨ h.n.ty = 13) = true := by rw [t_3]; decide
      have c_v := fun W => hasF_any h.n.ty 118 W
      rw [HAS.out.2.2.2.2.2.1, e_v] at c_v
      clear t_3
      by_cases k_d : 0 < h.d.2.1
      · have f_d : decide (0 < h.d.2.1) = true := decide_eq_true k_d; have K_d := Lib.hid k_d; clear k_d
        go_upto_region 3 with (first
    | (go_at_call 163; (with_reducible refine (c_p _).mono ?_); rintro e w9 ⟨rfl, rfl⟩)
    | (go_at_call 163; (with_reducible refine (c_d _).mono ?_); rintro e w9 ⟨rfl, rfl⟩)
    | (go_at_call 163; (with_reducible refine (c_a _).mono ?_); rintro e w9 ⟨rfl, rfl⟩)
    | (go_at_call 163; (with_reducible refine (c_o _).mono ?_); rintro e w9 ⟨rfl, rfl⟩)
    | (go_at_call 163; (with_reducible refine (c_n _).mono ?_); rintro e w9 ⟨rfl, rfl⟩)
    | (go_at_call 163; (with_reducible refine (c_v _).mono ?_); rintro e w9 ⟨rfl, rfl⟩)
    | fail)
        go_meet
        exact ⟨by rw [show b2 = true from by rw [← HB2.out]; simp only [e_p, e_d, e_a, e_o, e_n, e_v]; simp [K_d.out]], rfl⟩
      · have f_d : decide (0 < h.d.2.1) = false := decide_eq_false k_d; have K_d := Lib.hid k_d; clear k_d
        by_cases k_a : 0 < h.a.2.1
        · have f_a : decide (0 < h.a.2.1) = true := decide_eq_true k_a; have K_a := Lib.hid k_a; clear k_a
          go_upto_region 3 with (first
    | (go_at_call 163; (with_reducible refine (c_p _).mono ?_); rintro e w9 ⟨rfl, rfl⟩)
    | (go_at_call 163; (with_reducible refine (c_d _).mono ?_); rintro e w9 ⟨rfl, rfl⟩)
    | (go_at_call 163; (with_reducible refine (c_a _).mono ?_); rintro e w9 ⟨rfl, rfl⟩)
    | (go_at_call 163; (with_reducible refine (c_o _).mono ?_); rintro e w9 ⟨rfl, rfl⟩)
    | (go_at_call 163; (with_reducible refine (c_n _).mono ?_); rintro e w9 ⟨rfl, rfl⟩)
    | (go_at_call 163; (with_reducible refine (c_v _).mono ?_); rintro e w9 ⟨rfl, rfl⟩)
    | fail)
          go_meet
          exact ⟨by rw [show b2 = true from by rw [← HB2.out]; simp only [e_p, e_d, e_a, e_o, e_n, e_v]; simp [K_d.out, K_a.out]], rfl⟩
        · have f_a : decide (0 < h.a.2.1) = false := decide_eq_false k_a; have K_a := Lib.hid k_a; clear k_a
          by_cases k_o : h.n.ow ≠ 0
          · have f_o : (h.n.ow != 0) = true := bne_iff_ne.2 k_o; have K_o := Lib.hid k_o; clear k_o
            go_upto_region 3 with (first
    | (go_at_call 163; (with_reducible refine (c_p _).mono ?_); rintro e w9 ⟨rfl, rfl⟩)
    | (go_at_call 163; (with_reducible refine (c_d _).mono ?_); rintro e w9 ⟨rfl, rfl⟩)
    | (go_at_call 163; (with_reducible refine (c_a _).mono ?_); rintro e w9 ⟨rfl, rfl⟩)
    | (go_at_call 163; (with_reducible refine (c_o _).mono ?_); rintro e w9 ⟨rfl, rfl⟩)
    | (go_at_call 163; (with_reducible refine (c_n _).mono ?_); rintro e w9 ⟨rfl, rfl⟩)
    | (go_at_call 163; (with_reducible refine (c_v _).mono ?_); rintro e w9 ⟨rfl, rfl⟩)
    | fail)
            go_meet
            exact ⟨by rw [show b2 = true from by rw [← HB2.out]; simp only [e_p, e_d, e_a, e_o, e_n, e_v]; simp [K_d.out, K_a.out, K_o.out]], rfl⟩
          · have f_o : (h.n.ow != 0) = false := (by simpa using k_o); have K_o := Lib.hid k_o; clear k_o
            by_cases k_n : h.n.cr ≠ 0
            · have f_n : (h.n.cr != 0) = true := bne_iff_ne.2 k_n; have K_n := Lib.hid k_n; clear k_n
              go_upto_region 3 with (first
    | (go_at_call 163; (with_reducible refine (c_p _).mono ?_); rintro e w9 ⟨rfl, rfl⟩)
    | (go_at_call 163; (with_reducible refine (c_d _).mono ?_); rintro e w9 ⟨rfl, rfl⟩)
    | (go_at_call 163; (with_reducible refine (c_a _).mono ?_); rintro e w9 ⟨rfl, rfl⟩)
    | (go_at_call 163; (with_reducible refine (c_o _).mono ?_); rintro e w9 ⟨rfl, rfl⟩)
    | (go_at_call 163; (with_reducible refine (c_n _).mono ?_); rintro e w9 ⟨rfl, rfl⟩)
    | (go_at_call 163; (with_reducible refine (c_v _).mono ?_); rintro e w9 ⟨rfl, rfl⟩)
    | fail)
              go_meet
              exact ⟨by rw [show b2 = true from by rw [← HB2.out]; simp only [e_p, e_d, e_a, e_o, e_n, e_v]; simp [K_d.out, K_a.out, K_o.out, K_n.out]], rfl⟩
            · have f_n : (h.n.cr != 0) = false := (by simpa using k_n); have K_n := Lib.hid k_n; clear k_n
              go_upto_region 3 with (first
    | (go_at_call 163; (with_reducible refine (c_p _).mono ?_); rintro e w9 ⟨rfl, rfl⟩)
    | (go_at_call 163; (with_reducible refine (c_d _).mono ?_); rintro e w9 ⟨rfl, rfl⟩)
    | (go_at_call 163; (with_reducible refine (c_a _).mono ?_); rintro e w9 ⟨rfl, rfl⟩)
    | (go_at_call 163; (with_reducible refine (c_o _).mono ?_); rintro e w9 ⟨rfl, rfl⟩)
    | (go_at_call 163; (with_reducible refine (c_n _).mono ?_); rintro e w9 ⟨rfl, rfl⟩)
    | (go_at_call 163; (with_reducible refine (c_v _).mono ?_); rintro e w9 ⟨rfl, rfl⟩)
    | fail)
              go_meet
              exact ⟨by rw [show b2 = false from by rw [← HB2.out]; simp only [e_p, e_d, e_a, e_o, e_n, e_v]; simp [K_d.out, K_a.out, K_o.out, K_n.out]], rfl⟩
    by_cases t_4 : h.n.ty = 2 ∨ h.n.ty = 121 ∨ h.n.ty = 120
    · have e_p : partB h.n.ty = true := by rcases t_4 with e | e | e <;> (rw [e]; decide)
      have c_p := fun W => hasF_any h.n.ty 112 W
      rw [HAS.out.1, e_p] at c_p
      have e_d : decide (h.n.ty = 1 ∨ h.n.ty = 5) = false := by rcases t_4 with e | e | e <;> (rw [e]; decide)
      have c_d := fun W => hasF_any h.n.ty 100 W
      rw [HAS.out.2.1, e_d] at c_d
      have e_a : decide (h.n.ty = 1 ∨ h.n.ty = 7) = false := by rcases t_4 with e | e | e <;> (rw [e]; decide)
      have c_a := fun W => hasF_any h.n.ty 97 W
      rw [HAS.out.2.2.1, e_a] at c_a
      have e_o : decide (h.n.ty = 1) = false := by rcases t_4 with e | e | e <;> (rw [e]; decide)
      have c_o := fun W => hasF_any h.n.ty 111 W
      rw [HAS.out.2.2.2.1, e_o] at c_o
      have e_n : decide (h.n.ty = 1) = false := by rcases t_4 with e | e | e <;> (rw [e]; decide)
      have c_n := fun W => hasF_any h.n.ty 110 W
      rw [HAS.out.2.2.2.2.1, e_n] at c_n
      have e_v : decide (h.n.ty = 5 ∨ h.n.ty = 7 ∨ h.n.ty = 13) = false := by rcases t_4 with e | e | e <;> (rw [e]; decide)
      have c_v := fun W => hasF_any h.n.ty 118 W
      rw [HAS.out.2.2.2.2.2.1, e_v] at c_v
      clear t_4
      by_cases k_d : 0 < h.d.2.1
      · have f_d : decide (0 < h.d.2.1) = true := decide_eq_true k_d; have K_d := Lib.hid k_d; clear k_d
        go_upto_region 3 with (first
    | (go_at_call 163; (with_reducible refine (c_p _).mono ?_); rintro e w9 ⟨rfl, rfl⟩)
    | (go_at_call 163; (with_reducible refine (c_d _).mono ?_); rintro e w9 ⟨rfl, rfl⟩)
    | (go_at_call 163; (with_reducible refine (c_a _).mono ?_); rintro e w9 ⟨rfl, rfl⟩)
    | (go_at_call 163; (with_reducible refine (c_o _).mono ?_); rintro e w9 ⟨rfl, rfl⟩)
    | (go_at_call 163; (with_reducible refine (c_n _).mono ?_); rintro e w9 ⟨rfl, rfl⟩)
    | (go_at_call 163; (with_reducible refine (c_v _).mono ?_); rintro e w9 ⟨rfl, rfl⟩)
    | fail)
        go_meet
        exact ⟨by rw [show b2 = true from by rw [← HB2.out]; simp only [e_p, e_d, e_a, e_o, e_n, e_v]; simp [K_d.out]], rfl⟩
      · have f_d : decide (0 < h.d.2.1) = false := decide_eq_false k_d; have K_d := Lib.hid k_d; clear k_d
        by_cases k_a : 0 < h.a.2.1
        · have f_a : decide (0 < h.a.2.1) = true := decide_eq_true k_a; have K_a := Lib.hid k_a; clear k_a
          go_upto_region 3 with (first
    | (go_at_call 163; (with_reducible refine (c_p _).mono ?_); rintro e w9 ⟨rfl, rfl⟩)
    | (go_at_call 163; (with_reducible refine (c_d _).mono ?_); rintro e w9 ⟨rfl, rfl⟩)
    | (go_at_call 163; (with_reducible refine (c_a _).mono ?_); rintro e w9 ⟨rfl, rfl⟩)
    | (go_at_call 163; (with_reducible refine (c_o _).mono ?_); rintro e w9 ⟨rfl, rfl⟩)
    | (go_at_call 163; (with_reducible refine (c_n _).mono ?_); rintro e w9 ⟨rfl, rfl⟩)
    | (go_at_call 163; (with_reducible refine (c_v _).mono ?_); rintro e w9 ⟨rfl, rfl⟩)
    | fail)
          go_meet
          exact ⟨by rw [show b2 = true from by rw [← HB2.out]; simp only [e_p, e_d, e_a, e_o, e_n, e_v]; simp [K_d.out, K_a.out]], rfl⟩
        · have f_a : decide (0 < h.a.2.1) = false := decide_eq_false k_a; have K_a := Lib.hid k_a; clear k_a
          by_cases k_o : h.n.ow ≠ 0
          · have f_o : (h.n.ow != 0) = true := bne_iff_ne.2 k_o; have K_o := Lib.hid k_o; clear k_o
            go_upto_region 3 with (first
    | (go_at_call 163; (with_reducible refine (c_p _).mono ?_); rintro e w9 ⟨rfl, rfl⟩)
    | (go_at_call 163; (with_reducible refine (c_d _).mono ?_); rintro e w9 ⟨rfl, rfl⟩)
    | (go_at_call 163; (with_reducible refine (c_a _).mono ?_); rintro e w9 ⟨rfl, rfl⟩)
    | (go_at_call 163; (with_reducible refine (c_o _).mono ?_); rintro e w9 ⟨rfl, rfl⟩)
    | (go_at_call 163; (with_reducible refine (c_n _).mono ?_); rintro e w9 ⟨rfl, rfl⟩)
    | (go_at_call 163; (with_reducible refine (c_v _).mono ?_); rintro e w9 ⟨rfl, rfl⟩)
    | fail)
            go_meet
            exact ⟨by rw [show b2 = true from by rw [← HB2.out]; simp only [e_p, e_d, e_a, e_o, e_n, e_v]; simp [K_d.out, K_a.out, K_o.out]], rfl⟩
          · have f_o : (h.n.ow != 0) = false := (by simpa using k_o); have K_o := Lib.hid k_o; clear k_o
            by_cases k_n : h.n.cr ≠ 0
            · have f_n : (h.n.cr != 0) = true := bne_iff_ne.2 k_n; have K_n := Lib.hid k_n; clear k_n
              go_upto_region 3 with (first
    | (go_at_call 163; (with_reducible refine (c_p _).mono ?_); rintro e w9 ⟨rfl, rfl⟩)
    | (go_at_call 163; (with_reducible refine (c_d _).mono ?_); rintro e w9 ⟨rfl, rfl⟩)
    | (go_at_call 163; (with_reducible refine (c_a _).mono ?_); rintro e w9 ⟨rfl, rfl⟩)
    | (go_at_call 163; (with_reducible refine (c_o _).mono ?_); rintro e w9 ⟨rfl, rfl⟩)
    | (go_at_call 163; (with_reducible refine (c_n _).mono ?_); rintro e w9 ⟨rfl, rfl⟩)
    | (go_at_call 163; (with_reducible refine (c_v _).mono ?_); rintro e w9 ⟨rfl, rfl⟩)
    | fail)
              go_meet
              exact ⟨by rw [show b2 = true from by rw [← HB2.out]; simp only [e_p, e_d, e_a, e_o, e_n, e_v]; simp [K_d.out, K_a.out, K_o.out, K_n.out]], rfl⟩
            · have f_n : (h.n.cr != 0) = false := (by simpa using k_n); have K_n := Lib.hid k_n; clear k_n
              by_cases k_v : h.n.ve ≠ 0
              · have f_v : (h.n.ve != 0) = true := bne_iff_ne.2 k_v; have K_v := Lib.hid k_v; clear k_v
                go_upto_region 3 with (first
    | (go_at_call 163; (with_reducible refine (c_p _).mono ?_); rintro e w9 ⟨rfl, rfl⟩)
    | (go_at_call 163; (with_reducible refine (c_d _).mono ?_); rintro e w9 ⟨rfl, rfl⟩)
    | (go_at_call 163; (with_reducible refine (c_a _).mono ?_); rintro e w9 ⟨rfl, rfl⟩)
    | (go_at_call 163; (with_reducible refine (c_o _).mono ?_); rintro e w9 ⟨rfl, rfl⟩)
    | (go_at_call 163; (with_reducible refine (c_n _).mono ?_); rintro e w9 ⟨rfl, rfl⟩)
    | (go_at_call 163; (with_reducible refine (c_v _).mono ?_); rintro e w9 ⟨rfl, rfl⟩)
    | fail)
                go_meet
                exact ⟨by rw [show b2 = true from by rw [← HB2.out]; simp only [e_p, e_d, e_a, e_o, e_n, e_v]; simp [K_d.out, K_a.out, K_o.out, K_n.out, K_v.out]], rfl⟩
              · have f_v : (h.n.ve != 0) = false := (by simpa using k_v); have K_v := Lib.hid k_v; clear k_v
                go_upto_region 3 with (first
    | (go_at_call 163; (with_reducible refine (c_p _).mono ?_); rintro e w9 ⟨rfl, rfl⟩)
    | (go_at_call 163; (with_reducible refine (c_d _).mono ?_); rintro e w9 ⟨rfl, rfl⟩)
    | (go_at_call 163; (with_reducible refine (c_a _).mono ?_); rintro e w9 ⟨rfl, rfl⟩)
    | (go_at_call 163; (with_reducible refine (c_o _).mono ?_); rintro e w9 ⟨rfl, rfl⟩)
    | (go_at_call 163; (with_reducible refine (c_n _).mono ?_); rintro e w9 ⟨rfl, rfl⟩)
    | (go_at_call 163; (with_reducible refine (c_v _).mono ?_); rintro e w9 ⟨rfl, rfl⟩)
    | fail)
                go_meet
                exact ⟨by rw [show b2 = false from by rw [← HB2.out]; simp only [e_p, e_d, e_a, e_o, e_n, e_v]; simp [K_d.out, K_a.out, K_o.out, K_n.out, K_v.out]], rfl⟩
    have e_p : partB h.n.ty = false := by unfold partB; exact decide_eq_false (by omega)
    have c_p := fun W => hasF_any h.n.ty 112 W
    rw [HAS.out.1, e_p] at c_p
    have e_d : decide (h.n.ty = 1 ∨ h.n.ty = 5) = false := decide_eq_false (by omega)
    have c_d := fun W => hasF_any h.n.ty 100 W
    rw [HAS.out.2.1, e_d] at c_d
    have e_a : decide (h.n.ty = 1 ∨ h.n.ty = 7) = false := decide_eq_false (by omega)
    have c_a := fun W => hasF_any h.n.ty 97 W
    rw [HAS.out.2.2.1, e_a] at c_a
    have e_o : decide (h.n.ty = 1) = false := decide_eq_false (by omega)
    have c_o := fun W => hasF_any h.n.ty 111 W
    rw [HAS.out.2.2.2.1, e_o] at c_o
    have e_n : decide (h.n.ty = 1) = false := decide_eq_false (by omega)
    have c_n := fun W => hasF_any h.n.ty 110 W
    rw [HAS.out.2.2.2.2.1, e_n] at c_n
    have e_v : decide (h.n.ty = 5 ∨ h.n.ty = 7 ∨ h.n.ty = 13) = false := decide_eq_false (by omega)
    have c_v := fun W => hasF_any h.n.ty 118 W
    rw [HAS.out.2.2.2.2.2.1, e_v] at c_v
    by_cases k_p : h.n.path ≠ ByteArray.empty
    · have f_p : h.n.path.toList.isEmpty = false := path_full k_p; have K_p := Lib.hid k_p; clear k_p
      go_upto_region 3 with (first
    | (go_at_call 163; (with_reducible refine (c_p _).mono ?_); rintro e w9 ⟨rfl, rfl⟩)
    | (go_at_call 163; (with_reducible refine (c_d _).mono ?_); rintro e w9 ⟨rfl, rfl⟩)
    | (go_at_call 163; (with_reducible refine (c_a _).mono ?_); rintro e w9 ⟨rfl, rfl⟩)
    | (go_at_call 163; (with_reducible refine (c_o _).mono ?_); rintro e w9 ⟨rfl, rfl⟩)
    | (go_at_call 163; (with_reducible refine (c_n _).mono ?_); rintro e w9 ⟨rfl, rfl⟩)
    | (go_at_call 163; (with_reducible refine (c_v _).mono ?_); rintro e w9 ⟨rfl, rfl⟩)
    | fail)
      go_meet
      exact ⟨by rw [show b2 = true from by rw [← HB2.out]; simp only [e_p, e_d, e_a, e_o, e_n, e_v]; simp [K_p.out]], rfl⟩
    · have f_p : h.n.path.toList.isEmpty = true := path_none k_p; have K_p := Lib.hid k_p; clear k_p
      by_cases k_d : 0 < h.d.2.1
      · have f_d : decide (0 < h.d.2.1) = true := decide_eq_true k_d; have K_d := Lib.hid k_d; clear k_d
        go_upto_region 3 with (first
    | (go_at_call 163; (with_reducible refine (c_p _).mono ?_); rintro e w9 ⟨rfl, rfl⟩)
    | (go_at_call 163; (with_reducible refine (c_d _).mono ?_); rintro e w9 ⟨rfl, rfl⟩)
    | (go_at_call 163; (with_reducible refine (c_a _).mono ?_); rintro e w9 ⟨rfl, rfl⟩)
    | (go_at_call 163; (with_reducible refine (c_o _).mono ?_); rintro e w9 ⟨rfl, rfl⟩)
    | (go_at_call 163; (with_reducible refine (c_n _).mono ?_); rintro e w9 ⟨rfl, rfl⟩)
    | (go_at_call 163; (with_reducible refine (c_v _).mono ?_); rintro e w9 ⟨rfl, rfl⟩)
    | fail)
        go_meet
        exact ⟨by rw [show b2 = true from by rw [← HB2.out]; simp only [e_p, e_d, e_a, e_o, e_n, e_v]; simp [K_p.out, K_d.out]], rfl⟩
      · have f_d : decide (0 < h.d.2.1) = false := decide_eq_false k_d; have K_d := Lib.hid k_d; clear k_d
        by_cases k_a : 0 < h.a.2.1
        · have f_a : decide (0 < h.a.2.1) = true := decide_eq_true k_a; have K_a := Lib.hid k_a; clear k_a
          go_upto_region 3 with (first
    | (go_at_call 163; (with_reducible refine (c_p _).mono ?_); rintro e w9 ⟨rfl, rfl⟩)
    | (go_at_call 163; (with_reducible refine (c_d _).mono ?_); rintro e w9 ⟨rfl, rfl⟩)
    | (go_at_call 163; (with_reducible refine (c_a _).mono ?_); rintro e w9 ⟨rfl, rfl⟩)
    | (go_at_call 163; (with_reducible refine (c_o _).mono ?_); rintro e w9 ⟨rfl, rfl⟩)
    | (go_at_call 163; (with_reducible refine (c_n _).mono ?_); rintro e w9 ⟨rfl, rfl⟩)
    | (go_at_call 163; (with_reducible refine (c_v _).mono ?_); rintro e w9 ⟨rfl, rfl⟩)
    | fail)
          go_meet
          exact ⟨by rw [show b2 = true from by rw [← HB2.out]; simp only [e_p, e_d, e_a, e_o, e_n, e_v]; simp [K_p.out, K_d.out, K_a.out]], rfl⟩
        · have f_a : decide (0 < h.a.2.1) = false := decide_eq_false k_a; have K_a := Lib.hid k_a; clear k_a
          by_cases k_o : h.n.ow ≠ 0
          · have f_o : (h.n.ow != 0) = true := bne_iff_ne.2 k_o; have K_o := Lib.hid k_o; clear k_o
            go_upto_region 3 with (first
    | (go_at_call 163; (with_reducible refine (c_p _).mono ?_); rintro e w9 ⟨rfl, rfl⟩)
    | (go_at_call 163; (with_reducible refine (c_d _).mono ?_); rintro e w9 ⟨rfl, rfl⟩)
    | (go_at_call 163; (with_reducible refine (c_a _).mono ?_); rintro e w9 ⟨rfl, rfl⟩)
    | (go_at_call 163; (with_reducible refine (c_o _).mono ?_); rintro e w9 ⟨rfl, rfl⟩)
    | (go_at_call 163; (with_reducible refine (c_n _).mono ?_); rintro e w9 ⟨rfl, rfl⟩)
    | (go_at_call 163; (with_reducible refine (c_v _).mono ?_); rintro e w9 ⟨rfl, rfl⟩)
    | fail)
            go_meet
            exact ⟨by rw [show b2 = true from by rw [← HB2.out]; simp only [e_p, e_d, e_a, e_o, e_n, e_v]; simp [K_p.out, K_d.out, K_a.out, K_o.out]], rfl⟩
          · have f_o : (h.n.ow != 0) = false := (by simpa using k_o); have K_o := Lib.hid k_o; clear k_o
            by_cases k_n : h.n.cr ≠ 0
            · have f_n : (h.n.cr != 0) = true := bne_iff_ne.2 k_n; have K_n := Lib.hid k_n; clear k_n
              go_upto_region 3 with (first
    | (go_at_call 163; (with_reducible refine (c_p _).mono ?_); rintro e w9 ⟨rfl, rfl⟩)
    | (go_at_call 163; (with_reducible refine (c_d _).mono ?_); rintro e w9 ⟨rfl, rfl⟩)
    | (go_at_call 163; (with_reducible refine (c_a _).mono ?_); rintro e w9 ⟨rfl, rfl⟩)
    | (go_at_call 163; (with_reducible refine (c_o _).mono ?_); rintro e w9 ⟨rfl, rfl⟩)
    | (go_at_call 163; (with_reducible refine (c_n _).mono ?_); rintro e w9 ⟨rfl, rfl⟩)
    | (go_at_call 163; (with_reducible refine (c_v _).mono ?_); rintro e w9 ⟨rfl, rfl⟩)
    | fail)
              go_meet
              exact ⟨by rw [show b2 = true from by rw [← HB2.out]; simp only [e_p, e_d, e_a, e_o, e_n, e_v]; simp [K_p.out, K_d.out, K_a.out, K_o.out, K_n.out]], rfl⟩
            · have f_n : (h.n.cr != 0) = false := (by simpa using k_n); have K_n := Lib.hid k_n; clear k_n
              by_cases k_v : h.n.ve ≠ 0
              · have f_v : (h.n.ve != 0) = true := bne_iff_ne.2 k_v; have K_v := Lib.hid k_v; clear k_v
                go_upto_region 3 with (first
    | (go_at_call 163; (with_reducible refine (c_p _).mono ?_); rintro e w9 ⟨rfl, rfl⟩)
    | (go_at_call 163; (with_reducible refine (c_d _).mono ?_); rintro e w9 ⟨rfl, rfl⟩)
    | (go_at_call 163; (with_reducible refine (c_a _).mono ?_); rintro e w9 ⟨rfl, rfl⟩)
    | (go_at_call 163; (with_reducible refine (c_o _).mono ?_); rintro e w9 ⟨rfl, rfl⟩)
    | (go_at_call 163; (with_reducible refine (c_n _).mono ?_); rintro e w9 ⟨rfl, rfl⟩)
    | (go_at_call 163; (with_reducible refine (c_v _).mono ?_); rintro e w9 ⟨rfl, rfl⟩)
    | fail)
                go_meet
                exact ⟨by rw [show b2 = true from by rw [← HB2.out]; simp only [e_p, e_d, e_a, e_o, e_n, e_v]; simp [K_p.out, K_d.out, K_a.out, K_o.out, K_n.out, K_v.out]], rfl⟩
              · have f_v : (h.n.ve != 0) = false := (by simpa using k_v); have K_v := Lib.hid k_v; clear k_v
                go_upto_region 3 with (first
    | (go_at_call 163; (with_reducible refine (c_p _).mono ?_); rintro e w9 ⟨rfl, rfl⟩)
    | (go_at_call 163; (with_reducible refine (c_d _).mono ?_); rintro e w9 ⟨rfl, rfl⟩)
    | (go_at_call 163; (with_reducible refine (c_a _).mono ?_); rintro e w9 ⟨rfl, rfl⟩)
    | (go_at_call 163; (with_reducible refine (c_o _).mono ?_); rintro e w9 ⟨rfl, rfl⟩)
    | (go_at_call 163; (with_reducible refine (c_n _).mono ?_); rintro e w9 ⟨rfl, rfl⟩)
    | (go_at_call 163; (with_reducible refine (c_v _).mono ?_); rintro e w9 ⟨rfl, rfl⟩)
    | fail)
                go_meet
                exact ⟨by rw [show b2 = false from by rw [← HB2.out]; simp only [e_p, e_d, e_a, e_o, e_n, e_v]; simp [K_p.out, K_d.out, K_a.out, K_o.out, K_n.out, K_v.out]], rfl⟩
  case rest =>
  obtain ⟨rfl, rfl⟩ := hcut
  rename World => W
  clear x0 x1 x2 x3 x4 x5 x6 HB2
  have x7 := HC7.out W (Below.refl _ _); have x8 := HC8.out W (Below.refl _ _); have x9 := HC9.out W (Below.refl _ _); have x13 := HC13.out W (Below.refl _ _); have x14 := HC14.out W (Below.refl _ _); have x15 := HC15.out W (Below.refl _ _)
  generalize hb3 : (b2 || ((!decide (h.n.ty = 120) && (h.n.qh || decide (h.n.qc ≠ 0) || decide (h.n.qb ≠ 0))) || (!decide (h.n.ty = -11) && decide (0 < h.p.2.1)) || (!decide (h.n.ty = -1) && decide (h.n.co ≠ 0)) || (!decide (h.n.ty = 14) && decide (0 < h.s.2.1)))) = b3 at *
  have HB3 := Lib.hid hb3; clear hb3
  go_upto_region 3 with fail
  go_cut [4] from 68 to 111 (fun bv wx => bv = .bool b3 ∧ wx = W)
  case first =>
    cases b2 with
    | true =>
      go_upto_region 4 with fail
      go_meet
      exact ⟨by rw [← HB3.out]; rfl, rfl⟩
    | false =>
    rw [Bool.false_or] at HB3
    by_cases t_0 : h.n.ty = 120
    · have e_q : decide (h.n.ty = 120) = true := by rw [t_0]; decide
      have c_q := fun W => hasF_any h.n.ty 113 W
      rw [HAS.out.2.2.2.2.2.2.1, e_q] at c_q
      have e_l : decide (h.n.ty = -11) = false := by rw [t_0]; decide
      have c_l := fun W => hasF_any h.n.ty 108 W
      rw [HAS.out.2.2.2.2.2.2.2.2.1, e_l] at c_l
      have e_c : decide (h.n.ty = -1) = false := by rw [t_0]; decide
      have c_c := fun W => hasF_any h.n.ty 99 W
      rw [HAS.out.2.2.2.2.2.2.2.2.2.1, e_c] at c_c
      have e_m : decide (h.n.ty = 14) = false := by rw [t_0]; decide
      have c_m := fun W => hasF_any h.n.ty 109 W
      rw [HAS.out.2.2.2.2.2.2.2.2.2.2, e_m] at c_m
      clear t_0
      by_cases k_l : 0 < h.p.2.1
      · have f_l : decide (0 < h.p.2.1) = true := decide_eq_true k_l; have K_l := Lib.hid k_l; clear k_l
        go_upto_region 4 with (first
    | (go_at_call 163; (with_reducible refine (c_q _).mono ?_); rintro e w9 ⟨rfl, rfl⟩)
    | (go_at_call 163; (with_reducible refine (c_l _).mono ?_); rintro e w9 ⟨rfl, rfl⟩)
    | (go_at_call 163; (with_reducible refine (c_c _).mono ?_); rintro e w9 ⟨rfl, rfl⟩)
    | (go_at_call 163; (with_reducible refine (c_m _).mono ?_); rintro e w9 ⟨rfl, rfl⟩)
    | fail)
        go_meet
        exact ⟨by rw [show b3 = true from by rw [← HB3.out]; simp only [e_q, e_l, e_c, e_m]; simp [K_l.out]], rfl⟩
      · have f_l : decide (0 < h.p.2.1) = false := decide_eq_false k_l; have K_l := Lib.hid k_l; clear k_l
        by_cases k_c : h.n.co ≠ 0
        · have f_c : (h.n.co != 0) = true := bne_iff_ne.2 k_c; have K_c := Lib.hid k_c; clear k_c
          go_upto_region 4 with (first
    | (go_at_call 163; (with_reducible refine (c_q _).mono ?_); rintro e w9 ⟨rfl, rfl⟩)
    | (go_at_call 163; (with_reducible refine (c_l _).mono ?_); rintro e w9 ⟨rfl, rfl⟩)
    | (go_at_call 163; (with_reducible refine (c_c _).mono ?_); rintro e w9 ⟨rfl, rfl⟩)
    | (go_at_call 163; (with_reducible refine (c_m _).mono ?_); rintro e w9 ⟨rfl, rfl⟩)
    | fail)
          go_meet
          exact ⟨by rw [show b3 = true from by rw [← HB3.out]; simp only [e_q, e_l, e_c, e_m]; simp [K_l.out, K_c.out]], rfl⟩
        · have f_c : (h.n.co != 0) = false := (by simpa using k_c); have K_c := Lib.hid k_c; clear k_c
          by_cases k_m : 0 < h.s.2.1
          · have f_m : decide (0 < h.s.2.1) = true := decide_eq_true k_m; have K_m := Lib.hid k_m; clear k_m
            go_upto_region 4 with (first
    | (go_at_call 163; (with_reducible refine (c_q _).mono ?_); rintro e w9 ⟨rfl, rfl⟩)
    | (go_at_call 163; (with_reducible refine (c_l _).mono ?_); rintro e w9 ⟨rfl, rfl⟩)
    | (go_at_call 163; (with_reducible refine (c_c _).mono ?_); rintro e w9 ⟨rfl, rfl⟩)
    | (go_at_call 163; (with_reducible refine (c_m _).mono ?_); rintro e w9 ⟨rfl, rfl⟩)
    | fail)
            go_meet
            exact ⟨by rw [show b3 = true from by rw [← HB3.out]; simp only [e_q, e_l, e_c, e_m]; simp [K_l.out, K_c.out, K_m.out]], rfl⟩
          · have f_m : decide (0 < h.s.2.1) = false := decide_eq_false k_m; have K_m := Lib.hid k_m; clear k_m
            go_upto_region 4 with (first
    | (go_at_call 163; (with_reducible refine (c_q _).mono ?_); rintro e w9 ⟨rfl, rfl⟩)
    | (go_at_call 163; (with_reducible refine (c_l _).mono ?_); rintro e w9 ⟨rfl, rfl⟩)
    | (go_at_call 163; (with_reducible refine (c_c _).mono ?_); rintro e w9 ⟨rfl, rfl⟩)
    | (go_at_call 163; (with_reducible refine (c_m _).mono ?_); rintro e w9 ⟨rfl, rfl⟩)
    | fail)
            go_meet
            exact ⟨by rw [show b3 = false from by rw [← HB3.out]; simp only [e_q, e_l, e_c, e_m]; simp [K_l.out, K_c.out, K_m.out]], rfl⟩
    by_cases t_1 : h.n.ty = -11
    · have e_q : decide (h.n.ty = 120) = false := by rw [t_1]; decide
      have c_q := fun W => hasF_any h.n.ty 113 W
      rw [HAS.out.2.2.2.2.2.2.1, e_q] at c_q
      have e_l : decide (h.n.ty = -11) = true := by rw [t_1]; decide
      have c_l := fun W => hasF_any h.n.ty 108 W
      rw [HAS.out.2.2.2.2.2.2.2.2.1, e_l] at c_l
      have e_c : decide (h.n.ty = -1) = false := by rw [t_1]; decide
      have c_c := fun W => hasF_any h.n.ty 99 W
      rw [HAS.out.2.2.2.2.2.2.2.2.2.1, e_c] at c_c
      have e_m : decide (h.n.ty = 14) = false := by rw [t_1]; decide
      have c_m := fun W => hasF_any h.n.ty 109 W
      rw [HAS.out.2.2.2.2.2.2.2.2.2.2, e_m] at c_m
      clear t_1
      by_cases k_qh : h.n.qh = true
      · rw [k_qh] at x7; have K_qh := Lib.hid k_qh; clear k_qh
        go_upto_region 4 with (first
    | (go_at_call 163; (with_reducible refine (c_q _).mono ?_); rintro e w9 ⟨rfl, rfl⟩)
    | (go_at_call 163; (with_reducible refine (c_l _).mono ?_); rintro e w9 ⟨rfl, rfl⟩)
    | (go_at_call 163; (with_reducible refine (c_c _).mono ?_); rintro e w9 ⟨rfl, rfl⟩)
    | (go_at_call 163; (with_reducible refine (c_m _).mono ?_); rintro e w9 ⟨rfl, rfl⟩)
    | fail)
        go_meet
        exact ⟨by rw [show b3 = true from by rw [← HB3.out]; simp only [e_q, e_l, e_c, e_m]; simp [K_qh.out]], rfl⟩
      · rw [show h.n.qh = false from (by simpa using k_qh)] at x7; have K_qh := Lib.hid k_qh; clear k_qh
        by_cases k_qc : h.n.qc ≠ 0
        · have f_qc : (h.n.qc != 0) = true := bne_iff_ne.2 k_qc; have K_qc := Lib.hid k_qc; clear k_qc
          go_upto_region 4 with (first
    | (go_at_call 163; (with_reducible refine (c_q _).mono ?_); rintro e w9 ⟨rfl, rfl⟩)
    | (go_at_call 163; (with_reducible refine (c_l _).mono ?_); rintro e w9 ⟨rfl, rfl⟩)
    | (go_at_call 163; (with_reducible refine (c_c _).mono ?_); rintro e w9 ⟨rfl, rfl⟩)
    | (go_at_call 163; (with_reducible refine (c_m _).mono ?_); rintro e w9 ⟨rfl, rfl⟩)
    | fail)
          go_meet
          exact ⟨by rw [show b3 = true from by rw [← HB3.out]; simp only [e_q, e_l, e_c, e_m]; simp [K_qh.out, K_qc.out]], rfl⟩
        · have f_qc : (h.n.qc != 0) = false := (by simpa using k_qc); have K_qc := Lib.hid k_qc; clear k_qc
          by_cases k_qb : h.n.qb ≠ 0
          · have f_qb : (h.n.qb != 0) = true := bne_iff_ne.2 k_qb; have K_qb := Lib.hid k_qb; clear k_qb
            go_upto_region 4 with (first
    | (go_at_call 163; (with_reducible refine (c_q _).mono ?_); rintro e w9 ⟨rfl, rfl⟩)
    | (go_at_call 163; (with_reducible refine (c_l _).mono ?_); rintro e w9 ⟨rfl, rfl⟩)
    | (go_at_call 163; (with_reducible refine (c_c _).mono ?_); rintro e w9 ⟨rfl, rfl⟩)
    | (go_at_call 163; (with_reducible refine (c_m _).mono ?_); rintro e w9 ⟨rfl, rfl⟩)
    | fail)
            go_meet
            exact ⟨by rw [show b3 = true from by rw [← HB3.out]; simp only [e_q, e_l, e_c, e_m]; simp [K_qh.out, K_qc.out, K_qb.out]], rfl⟩
          · have f_qb : (h.n.qb != 0) = false := (by simpa using k_qb); have K_qb := Lib.hid k_qb; clear k_qb
            by_cases k_c : h.n.co ≠ 0
            · have f_c : (h.n.co != 0) = true := bne_iff_ne.2 k_c; have K_c := Lib.hid k_c; clear k_c
              go_upto_region 4 with (first
    | (go_at_call 163; (with_reducible refine (c_q _).mono ?_); rintro e w9 ⟨rfl, rfl⟩)
    | (go_at_call 163; (with_reducible refine (c_l _).mono ?_); rintro e w9 ⟨rfl, rfl⟩)
    | (go_at_call 163; (with_reducible refine (c_c _).mono ?_); rintro e w9 ⟨rfl, rfl⟩)
    | (go_at_call 163; (with_reducible refine (c_m _).mono ?_); rintro e w9 ⟨rfl, rfl⟩)
    | fail)
              go_meet
              exact ⟨by rw [show b3 = true from by rw [← HB3.out]; simp only [e_q, e_l, e_c, e_m]; simp [K_qh.out, K_qc.out, K_qb.out, K_c.out]], rfl⟩
            · have f_c : (h.n.co != 0) = false := (by simpa using k_c); have K_c := Lib.hid k_c; clear k_c
              by_cases k_m : 0 < h.s.2.1
              · have f_m : decide (0 < h.s.2.1) = true := decide_eq_true k_m; have K_m := Lib.hid k_m; clear k_m
                go_upto_region 4 with (first
    | (go_at_call 163; (with_reducible refine (c_q _).mono ?_); rintro e w9 ⟨rfl, rfl⟩)
    | (go_at_call 163; (with_reducible refine (c_l _).mono ?_); rintro e w9 ⟨rfl, rfl⟩)
    | (go_at_call 163; (with_reducible refine (c_c _).mono ?_); rintro e w9 ⟨rfl, rfl⟩)
    | (go_at_call 163; (with_reducible refine (c_m _).mono ?_); rintro e w9 ⟨rfl, rfl⟩)
    | fail)
                go_meet
                exact ⟨by rw [show b3 = true from by rw [← HB3.out]; simp only [e_q, e_l, e_c, e_m]; simp [K_qh.out, K_qc.out, K_qb.out, K_c.out, K_m.out]], rfl⟩
              · have f_m : decide (0 < h.s.2.1) = false := decide_eq_false k_m; have K_m := Lib.hid k_m; clear k_m
                go_upto_region 4 with (first
    | (go_at_call 163; (with_reducible refine (c_q _).mono ?_); rintro e w9 ⟨rfl, rfl⟩)
    | (go_at_call 163; (with_reducible refine (c_l _).mono ?_); rintro e w9 ⟨rfl, rfl⟩)
    | (go_at_call 163; (with_reducible refine (c_c _).mono ?_); rintro e w9 ⟨rfl, rfl⟩)
    | (go_at_call 163; (with_reducible refine (c_m _).mono ?_); rintro e w9 ⟨rfl, rfl⟩)
    | fail)
                go_meet
                exact ⟨by rw [show b3 = false from by rw [← HB3.out]; simp only [e_q, e_l, e_c, e_m]; simp [K_qh.out, K_qc.out, K_qb.out, K_c.out, K_m.out]], rfl⟩
    by_cases t_2 : h.n.ty = -1
    · have e_q : decide (h.n.ty = 120) = false := by rw [t_2]; decide
      have c_q := fun W => hasF_any h.n.ty 113 W
      rw [HAS.out.2.2.2.2.2.2.1, e_q] at c_q
      have e_l : decide (h.n.ty = -11) = false := by rw [t_2]; decide
      have c_l := fun W => hasF_any h.n.ty 108 W
      rw [HAS.out.2.2.2.2.2.2.2.2.1, e_l] at c_l
      have e_c : decide (h.n.ty = -1) = true := by rw [t_2]; decide
      have c_c := fun W => hasF_any h.n.ty 99 W
      rw [HAS.out.2.2.2.2.2.2.2.2.2.1, e_c] at c_c
      have e_m : decide (h.n.ty = 14) = false := by rw [t_2]; decide
      have c_m := fun W => hasF_any h.n.ty 109 W
      rw [HAS.out.2.2.2.2.2.2.2.2.2.2, e_m] at c_m
      clear t_2
      by_cases k_qh : h.n.qh = true
      · rw [k_qh] at x7; have K_qh := Lib.hid k_qh; clear k_qh
        go_upto_region 4 with (first
    | (go_at_call 163; (with_reducible refine (c_q _).mono ?_); rintro e w9 ⟨rfl, rfl⟩)
    | (go_at_call 163; (with_reducible refine (c_l _).mono ?_); rintro e w9 ⟨rfl, rfl⟩)
    | (go_at_call 163; (with_reducible refine (c_c _).mono ?_); rintro e w9 ⟨rfl, rfl⟩)
    | (go_at_call 163; (with_reducible refine (c_m _).mono ?_); rintro e w9 ⟨rfl, rfl⟩)
    | fail)
        go_meet
        exact ⟨by rw [show b3 = true from by rw [← HB3.out]; simp only [e_q, e_l, e_c, e_m]; simp [K_qh.out]], rfl⟩
      · rw [show h.n.qh = false from (by simpa using k_qh)] at x7; have K_qh := Lib.hid k_qh; clear k_qh
        by_cases k_qc : h.n.qc ≠ 0
        · have f_qc : (h.n.qc != 0) = true := bne_iff_ne.2 k_qc; have K_qc := Lib.hid k_qc; clear k_qc
          go_upto_region 4 with (first
    | (go_at_call 163; (with_reducible refine (c_q _).mono ?_); rintro e w9 ⟨rfl, rfl⟩)
    | (go_at_call 163; (with_reducible refine (c_l _).mono ?_); rintro e w9 ⟨rfl, rfl⟩)
    | (go_at_call 163; (with_reducible refine (c_c _).mono ?_); rintro e w9 ⟨rfl, rfl⟩)
    | (go_at_call 163; (with_reducible refine (c_m _).mono ?_); rintro e w9 ⟨rfl, rfl⟩)
    | fail)
          go_meet
          exact ⟨by rw [show b3 = true from by rw [← HB3.out]; simp only [e_q, e_l, e_c, e_m]; simp [K_qh.out, K_qc.out]], rfl⟩
        · have f_qc : (h.n.qc != 0) = false := (by simpa using k_qc); have K_qc := Lib.hid k_qc; clear k_qc
          by_cases k_qb : h.n.qb ≠ 0
          · have f_qb : (h.n.qb != 0) = true := bne_iff_ne.2 k_qb; have K_qb := Lib.hid k_qb; clear k_qb
            go_upto_region 4 with (first
    | (go_at_call 163; (with_reducible refine (c_q _).mono ?_); rintro e w9 ⟨rfl, rfl⟩)
    | (go_at_call 163; (with_reducible refine (c_l _).mono ?_); rintro e w9 ⟨rfl, rfl⟩)
    | (go_at_call 163; (with_reducible refine (c_c _).mono ?_); rintro e w9 ⟨rfl, rfl⟩)
    | (go_at_call 163; (with_reducible refine (c_m _).mono ?_); rintro e w9 ⟨rfl, rfl⟩)
    | fail)
            go_meet
            exact ⟨by rw [show b3 = true from by rw [← HB3.out]; simp only [e_q, e_l, e_c, e_m]; simp [K_qh.out, K_qc.out, K_qb.out]], rfl⟩
          · have f_qb : (h.n.qb != 0) = false := (by simpa using k_qb); have K_qb := Lib.hid k_qb; clear k_qb
            by_cases k_l : 0 < h.p.2.1
            · have f_l : decide (0 < h.p.2.1) = true := decide_eq_true k_l; have K_l := Lib.hid k_l; clear k_l
              go_upto_region 4 with (first
    | (go_at_call 163; (with_reducible refine (c_q _).mono ?_); rintro e w9 ⟨rfl, rfl⟩)
    | (go_at_call 163; (with_reducible refine (c_l _).mono ?_); rintro e w9 ⟨rfl, rfl⟩)
    | (go_at_call 163; (with_reducible refine (c_c _).mono ?_); rintro e w9 ⟨rfl, rfl⟩)
    | (go_at_call 163; (with_reducible refine (c_m _).mono ?_); rintro e w9 ⟨rfl, rfl⟩)
    | fail)
              go_meet
              exact ⟨by rw [show b3 = true from by rw [← HB3.out]; simp only [e_q, e_l, e_c, e_m]; simp [K_qh.out, K_qc.out, K_qb.out, K_l.out]], rfl⟩
            · have f_l : decide (0 < h.p.2.1) = false := decide_eq_false k_l; have K_l := Lib.hid k_l; clear k_l
              by_cases k_m : 0 < h.s.2.1
              · have f_m : decide (0 < h.s.2.1) = true := decide_eq_true k_m; have K_m := Lib.hid k_m; clear k_m
                go_upto_region 4 with (first
    | (go_at_call 163; (with_reducible refine (c_q _).mono ?_); rintro e w9 ⟨rfl, rfl⟩)
    | (go_at_call 163; (with_reducible refine (c_l _).mono ?_); rintro e w9 ⟨rfl, rfl⟩)
    | (go_at_call 163; (with_reducible refine (c_c _).mono ?_); rintro e w9 ⟨rfl, rfl⟩)
    | (go_at_call 163; (with_reducible refine (c_m _).mono ?_); rintro e w9 ⟨rfl, rfl⟩)
    | fail)
                go_meet
                exact ⟨by rw [show b3 = true from by rw [← HB3.out]; simp only [e_q, e_l, e_c, e_m]; simp [K_qh.out, K_qc.out, K_qb.out, K_l.out, K_m.out]], rfl⟩
              · have f_m : decide (0 < h.s.2.1) = false := decide_eq_false k_m; have K_m := Lib.hid k_m; clear k_m
                go_upto_region 4 with (first
    | (go_at_call 163; (with_reducible refine (c_q _).mono ?_); rintro e w9 ⟨rfl, rfl⟩)
    | (go_at_call 163; (with_reducible refine (c_l _).mono ?_); rintro e w9 ⟨rfl, rfl⟩)
    | (go_at_call 163; (with_reducible refine (c_c _).mono ?_); rintro e w9 ⟨rfl, rfl⟩)
    | (go_at_call 163; (with_reducible refine (c_m _).mono ?_); rintro e w9 ⟨rfl, rfl⟩)
    | fail)
                go_meet
                exact ⟨by rw [show b3 = false from by rw [← HB3.out]; simp only [e_q, e_l, e_c, e_m]; simp [K_qh.out, K_qc.out, K_qb.out, K_l.out, K_m.out]], rfl⟩
    by_cases t_3 : h.n.ty = 14
    · have e_q : decide (h.n.ty = 120) = false := by rw [t_3]; decide
      have c_q := fun W => hasF_any h.n.ty 113 W
      rw [HAS.out.2.2.2.2.2.2.1, e_q] at c_q
      have e_l : decide (h.n.ty = -11) = false := by rw [t_3]; decide
      have c_l := fun W => hasF_any h.n.ty 108 W
      rw [HAS.out.2.2.2.2.2.2.2.2.1, e_l] at c_l
      have e_c : decide (h.n.ty = -1) = false := by rw [t_3]; decide
      have c_c := fun W => hasF_any h.n.ty 99 W
      rw [HAS.out.2.2.2.2.2.2.2.2.2.1, e_c] at c_c
      have e_m : decide (h.n.ty = 14) = true := by rw [t_3]; decide
      have c_m := fun W => hasF_any h.n.ty 109 W
      rw [HAS.out.2.2.2.2.2.2.2.2.2.2, e_m] at c_m
      clear t_3
      by_cases k_qh : h.n.qh = true
      · rw [k_qh] at x7; have K_qh := Lib.hid k_qh; clear k_qh
        go_upto_region 4 with (first
    | (go_at_call 163; (with_reducible refine (c_q _).mono ?_); rintro e w9 ⟨rfl, rfl⟩)
    | (go_at_call 163; (with_reducible refine (c_l _).mono ?_); rintro e w9 ⟨rfl, rfl⟩)
    | (go_at_call 163; (with_reducible refine (c_c _).mono ?_); rintro e w9 ⟨rfl, rfl⟩)
    | (go_at_call 163; (with_reducible refine (c_m _).mono ?_); rintro e w9 ⟨rfl, rfl⟩)
    | fail)
        go_meet
        exact ⟨by rw [show b3 = true from by rw [← HB3.out]; simp only [e_q, e_l, e_c, e_m]; simp [K_qh.out]], rfl⟩
      · rw [show h.n.qh = false from (by simpa using k_qh)] at x7; have K_qh := Lib.hid k_qh; clear k_qh
        by_cases k_qc : h.n.qc ≠ 0
        · have f_qc : (h.n.qc != 0) = true := bne_iff_ne.2 k_qc; have K_qc := Lib.hid k_qc; clear k_qc
          go_upto_region 4 with (first
    | (go_at_call 163; (with_reducible refine (c_q _).mono ?_); rintro e w9 ⟨rfl, rfl⟩)
    | (go_at_call 163; (with_reducible refine (c_l _).mono ?_); rintro e w9 ⟨rfl, rfl⟩)
    | (go_at_call 163; (with_reducible refine (c_c _).mono ?_); rintro e w9 ⟨rfl, rfl⟩)
    | (go_at_call 163; (with_reducible refine (c_m _).mono ?_); rintro e w9 ⟨rfl, rfl⟩)
    | fail)
          go_meet
          exact ⟨by rw [show b3 = true from by rw [← HB3.out]; simp only [e_q, e_l, e_c, e_m]; simp [K_qh.out, K_qc.out]], rfl⟩
        · have f_qc : (h.n.qc != 0) = false := (by simpa using k_qc); have K_qc := Lib.hid k_qc; clear k_qc
          by_cases k_qb : h.n.qb ≠ 0
          · have f_qb : (h.n.qb != 0) = true := bne_iff_ne.2 k_qb; have K_qb := Lib.hid k_qb; clear k_qb
            go_upto_region 4 with (first
    | (go_at_call 163; (with_reducible refine (c_q _).mono ?_); rintro e w9 ⟨rfl, rfl⟩)
    | (go_at_call 163; (with_reducible refine (c_l _).mono ?_); rintro e w9 ⟨rfl, rfl⟩)
    | (go_at_call 163; (with_reducible refine (c_c _).mono ?_); rintro e w9 ⟨rfl, rfl⟩)
    | (go_at_call 163; (with_reducible refine (c_m _).mono ?_); rintro e w9 ⟨rfl, rfl⟩)
    | fail)
            go_meet
            exact ⟨by rw [show b3 = true from by rw [← HB3.out]; simp only [e_q, e_l, e_c, e_m]; simp [K_qh.out, K_qc.out, K_qb.out]], rfl⟩
          · have f_qb : (h.n.qb != 0) = false := (by simpa using k_qb); have K_qb := Lib.hid k_qb; clear k_qb
            by_cases k_l : 0 < h.p.2.1
            · have f_l : decide (0 < h.p.2.1) = true := decide_eq_true k_l; have K_l := Lib.hid k_l; clear k_l
              go_upto_region 4 with (first
    | (go_at_call 163; (with_reducible refine (c_q _).mono ?_); rintro e w9 ⟨rfl, rfl⟩)
    | (go_at_call 163; (with_reducible refine (c_l _).mono ?_); rintro e w9 ⟨rfl, rfl⟩)
    | (go_at_call 163; (with_reducible refine (c_c _).mono ?_); rintro e w9 ⟨rfl, rfl⟩)
    | (go_at_call 163; (with_reducible refine (c_m _).mono ?_); rintro e w9 ⟨rfl, rfl⟩)
    | fail)
              go_meet
              exact ⟨by rw [show b3 = true from by rw [← HB3.out]; simp only [e_q, e_l, e_c, e_m]; simp [K_qh.out, K_qc.out, K_qb.out, K_l.out]], rfl⟩
            · have f_l : decide (0 < h.p.2.1) = false := decide_eq_false k_l; have K_l := Lib.hid k_l; clear k_l
              by_cases k_c : h.n.co ≠ 0
              · have f_c : (h.n.co != 0) = true := bne_iff_ne.2 k_c; have K_c := Lib.hid k_c; clear k_c
                go_upto_region 4 with (first
    | (go_at_call 163; (with_reducible refine (c_q _).mono ?_); rintro e w9 ⟨rfl, rfl⟩)
    | (go_at_call 163; (with_reducible refine (c_l _).mono ?_); rintro e w9 ⟨rfl, rfl⟩)
    | (go_at_call 163; (with_reducible refine (c_c _).mono ?_); rintro e w9 ⟨rfl, rfl⟩)
    | (go_at_call 163; (with_reducible refine (c_m _).mono ?_); rintro e w9 ⟨rfl, rfl⟩)
    | fail)
                go_meet
                exact ⟨by rw [show b3 = true from by rw [← HB3.out]; simp only [e_q, e_l, e_c, e_m]; simp [K_qh.out, K_qc.out, K_qb.out, K_l.out, K_c.out]], rfl⟩
              · have f_c : (h.n.co != 0) = false := (by simpa using k_c); have K_c := Lib.hid k_c; clear k_c
                go_upto_region 4 with (first
    | (go_at_call 163; (with_reducible refine (c_q _).mono ?_); rintro e w9 ⟨rfl, rfl⟩)
    | (go_at_call 163; (with_reducible refine (c_l _).mono ?_); rintro e w9 ⟨rfl, rfl⟩)
    | (go_at_call 163; (with_reducible refine (c_c _).mono ?_); rintro e w9 ⟨rfl, rfl⟩)
    | (go_at_call 163; (with_reducible refine (c_m _).mono ?_); rintro e w9 ⟨rfl, rfl⟩)
    | fail)
                go_meet
                exact ⟨by rw [show b3 = false from by rw [← HB3.out]; simp only [e_q, e_l, e_c, e_m]; simp [K_qh.out, K_qc.out, K_qb.out, K_l.out, K_c.out]], rfl⟩
    have e_q : decide (h.n.ty = 120) = false := decide_eq_false (by omega)
    have c_q := fun W => hasF_any h.n.ty 113 W
    rw [HAS.out.2.2.2.2.2.2.1, e_q] at c_q
    have e_l : decide (h.n.ty = -11) = false := decide_eq_false (by omega)
    have c_l := fun W => hasF_any h.n.ty 108 W
    rw [HAS.out.2.2.2.2.2.2.2.2.1, e_l] at c_l
    have e_c : decide (h.n.ty = -1) = false := decide_eq_false (by omega)
    have c_c := fun W => hasF_any h.n.ty 99 W
    rw [HAS.out.2.2.2.2.2.2.2.2.2.1, e_c] at c_c
    have e_m : decide (h.n.ty = 14) = false := decide_eq_false (by omega)
    have c_m := fun W => hasF_any h.n.ty 109 W
    rw [HAS.out.2.2.2.2.2.2.2.2.2.2, e_m] at c_m
    by_cases k_qh : h.n.qh = true
    · rw [k_qh] at x7; have K_qh := Lib.hid k_qh; clear k_qh
      go_upto_region 4 with (first
    | (go_at_call 163; (with_reducible refine (c_q _).mono ?_); rintro e w9 ⟨rfl, rfl⟩)
    | (go_at_call 163; (with_reducible refine (c_l _).mono ?_); rintro e w9 ⟨rfl, rfl⟩)
    | (go_at_call 163; (with_reducible refine (c_c _).mono ?_); rintro e w9 ⟨rfl, rfl⟩)
    | (go_at_call 163; (with_reducible refine (c_m _).mono ?_); rintro e w9 ⟨rfl, rfl⟩)
    | fail)
      go_meet
      exact ⟨by rw [show b3 = true from by rw [← HB3.out]; simp only [e_q, e_l, e_c, e_m]; simp [K_qh.out]], rfl⟩
    · rw [show h.n.qh = false from (by simpa using k_qh)] at x7; have K_qh := Lib.hid k_qh; clear k_qh
      by_cases k_qc : h.n.qc ≠ 0
      · have f_qc : (h.n.qc != 0) = true := bne_iff_ne.2 k_qc; have K_qc := Lib.hid k_qc; clear k_qc
        go_upto_region 4 with (first
    | (go_at_call 163; (with_reducible refine (c_q _).mono ?_); rintro e w9 ⟨rfl, rfl⟩)
    | (go_at_call 163; (with_reducible refine (c_l _).mono ?_); rintro e w9 ⟨rfl, rfl⟩)
    | (go_at_call 163; (with_reducible refine (c_c _).mono ?_); rintro e w9 ⟨rfl, rfl⟩)
    | (go_at_call 163; (with_reducible refine (c_m _).mono ?_); rintro e w9 ⟨rfl, rfl⟩)
    | fail)
        go_meet
        exact ⟨by rw [show b3 = true from by rw [← HB3.out]; simp only [e_q, e_l, e_c, e_m]; simp [K_qh.out, K_qc.out]], rfl⟩
      · have f_qc : (h.n.qc != 0) = false := (by simpa using k_qc); have K_qc := Lib.hid k_qc; clear k_qc
        by_cases k_qb : h.n.qb ≠ 0
        · have f_qb : (h.n.qb != 0) = true := bne_iff_ne.2 k_qb; have K_qb := Lib.hid k_qb; clear k_qb
          go_upto_region 4 with (first
    | (go_at_call 163; (with_reducible refine (c_q _).mono ?_); rintro e w9 ⟨rfl, rfl⟩)
    | (go_at_call 163; (with_reducible refine (c_l _).mono ?_); rintro e w9 ⟨rfl, rfl⟩)
    | (go_at_call 163; (with_reducible refine (c_c _).mono ?_); rintro e w9 ⟨rfl, rfl⟩)
    | (go_at_call 163; (with_reducible refine (c_m _).mono ?_); rintro e w9 ⟨rfl, rfl⟩)
    | fail)
          go_meet
          exact ⟨by rw [show b3 = true from by rw [← HB3.out]; simp only [e_q, e_l, e_c, e_m]; simp [K_qh.out, K_qc.out, K_qb.out]], rfl⟩
        · have f_qb : (h.n.qb != 0) = false := (by simpa using k_qb); have K_qb := Lib.hid k_qb; clear k_qb
          by_cases k_l : 0 < h.p.2.1
          · have f_l : decide (0 < h.p.2.1) = true := decide_eq_true k_l; have K_l := Lib.hid k_l; clear k_l
            go_upto_region 4 with (first
    | (go_at_call 163; (with_reducible refine (c_q _).mono ?_); rintro e w9 ⟨rfl, rfl⟩)
    | (go_at_call 163; (with_reducible refine (c_l _).mono ?_); rintro e w9 ⟨rfl, rfl⟩)
    | (go_at_call 163; (with_reducible refine (c_c _).mono ?_); rintro e w9 ⟨rfl, rfl⟩)
    | (go_at_call 163; (with_reducible refine (c_m _).mono ?_); rintro e w9 ⟨rfl, rfl⟩)
    | fail)
            go_meet
            exact ⟨by rw [show b3 = true from by rw [← HB3.out]; simp only [e_q, e_l, e_c, e_m]; simp [K_qh.out, K_qc.out, K_qb.out, K_l.out]], rfl⟩
          · have f_l : decide (0 < h.p.2.1) = false := decide_eq_false k_l; have K_l := Lib.hid k_l; clear k_l
            by_cases k_c : h.n.co ≠ 0
            · have f_c : (h.n.co != 0) = true := bne_iff_ne.2 k_c; have K_c := Lib.hid k_c; clear k_c
              go_upto_region 4 with (first
    | (go_at_call 163; (with_reducible refine (c_q _).mono ?_); rintro e w9 ⟨rfl, rfl⟩)
    | (go_at_call 163; (with_reducible refine (c_l _).mono ?_); rintro e w9 ⟨rfl, rfl⟩)
    | (go_at_call 163; (with_reducible refine (c_c _).mono ?_); rintro e w9 ⟨rfl, rfl⟩)
    | (go_at_call 163; (with_reducible refine (c_m _).mono ?_); rintro e w9 ⟨rfl, rfl⟩)
    | fail)
              go_meet
              exact ⟨by rw [show b3 = true from by rw [← HB3.out]; simp only [e_q, e_l, e_c, e_m]; simp [K_qh.out, K_qc.out, K_qb.out, K_l.out, K_c.out]], rfl⟩
            · have f_c : (h.n.co != 0) = false := (by simpa using k_c); have K_c := Lib.hid k_c; clear k_c
              by_cases k_m : 0 < h.s.2.1
              · have f_m : decide (0 < h.s.2.1) = true := decide_eq_true k_m; have K_m := Lib.hid k_m; clear k_m
                go_upto_region 4 with (first
    | (go_at_call 163; (with_reducible refine (c_q _).mono ?_); rintro e w9 ⟨rfl, rfl⟩)
    | (go_at_call 163; (with_reducible refine (c_l _).mono ?_); rintro e w9 ⟨rfl, rfl⟩)
    | (go_at_call 163; (with_reducible refine (c_c _).mono ?_); rintro e w9 ⟨rfl, rfl⟩)
    | (go_at_call 163; (with_reducible refine (c_m _).mono ?_); rintro e w9 ⟨rfl, rfl⟩)
    | fail)
                go_meet
                exact ⟨by rw [show b3 = true from by rw [← HB3.out]; simp only [e_q, e_l, e_c, e_m]; simp [K_qh.out, K_qc.out, K_qb.out, K_l.out, K_c.out, K_m.out]], rfl⟩
              · have f_m : decide (0 < h.s.2.1) = false := decide_eq_false k_m; have K_m := Lib.hid k_m; clear k_m
                go_upto_region 4 with (first
    | (go_at_call 163; (with_reducible refine (c_q _).mono ?_); rintro e w9 ⟨rfl, rfl⟩)
    | (go_at_call 163; (with_reducible refine (c_l _).mono ?_); rintro e w9 ⟨rfl, rfl⟩)
    | (go_at_call 163; (with_reducible refine (c_c _).mono ?_); rintro e w9 ⟨rfl, rfl⟩)
    | (go_at_call 163; (with_reducible refine (c_m _).mono ?_); rintro e w9 ⟨rfl, rfl⟩)
    | fail)
                go_meet
                exact ⟨by rw [show b3 = false from by rw [← HB3.out]; simp only [e_q, e_l, e_c, e_m]; simp [K_qh.out, K_qc.out, K_qb.out, K_l.out, K_c.out, K_m.out]], rfl⟩
  case rest =>
  obtain ⟨rfl, rfl⟩ := hcut
  rename World => W
  clear x7 x8 x9 x13 x14 x15 HB3
  have x10 := HC10.out W (Below.refl _ _); have x11 := HC11.out W (Below.refl _ _); have x12 := HC12.out W (Below.refl _ _)
  cases b3 with
  | true =>
    go_wp2_with fail
    go_ret
    exact RetB.mk HB.out (by rw [HSP.out]; rfl)
  | false =>
  rw [Bool.false_or] at HSP
  by_cases t_s : h.n.ty = -10
  · have e_s : decide (h.n.ty = -10) = true := decide_eq_true t_s
    have c_s := fun W => hasF_any h.n.ty 115 W
    rw [HAS.out.2.2.2.2.2.2.2.1, e_s] at c_s
    clear t_s
    go_wp2_with (first | (go_at_call 163; (with_reducible refine (c_s _).mono ?_); rintro e w9 ⟨rfl, rfl⟩) | fail)
    go_ret
    exact RetB.mk HB.out (by rw [HSP.out, e_s]; rfl)
  have e_s : decide (h.n.ty = -10) = false := decide_eq_false t_s
  have c_s := fun W => hasF_any h.n.ty 115 W
  rw [HAS.out.2.2.2.2.2.2.2.1, e_s] at c_s
  clear t_s
  by_cases k_si : h.n.si ≠ 0
  · have f_si : (h.n.si != 0) = true := bne_iff_ne.2 k_si; have K_si := Lib.hid k_si; clear k_si
    go_wp2_with (first | (go_at_call 163; (with_reducible refine (c_s _).mono ?_); rintro e w9 ⟨rfl, rfl⟩) | fail)
    go_ret
    exact RetB.mk HB.out (by rw [HSP.out, e_s]; simp [K_si.out])
  · have f_si : (h.n.si != 0) = false := (by simpa using k_si); have K_si := Lib.hid k_si; clear k_si
    by_cases k_st : h.n.st ≠ 0
    · have f_st : (h.n.st != 0) = true := bne_iff_ne.2 k_st; have K_st := Lib.hid k_st; clear k_st
      go_wp2_with (first | (go_at_call 163; (with_reducible refine (c_s _).mono ?_); rintro e w9 ⟨rfl, rfl⟩) | fail)
      go_ret
      exact RetB.mk HB.out (by rw [HSP.out, e_s]; simp [K_si.out, K_st.out])
    · have f_st : (h.n.st != 0) = false := (by simpa using k_st); have K_st := Lib.hid k_st; clear k_st
      by_cases k_id : 0 < h.i.2.1
      · have f_id : decide (0 < h.i.2.1) = true := decide_eq_true k_id; have K_id := Lib.hid k_id; clear k_id
        go_wp2_with (first | (go_at_call 163; (with_reducible refine (c_s _).mono ?_); rintro e w9 ⟨rfl, rfl⟩) | fail)
        go_ret
        exact RetB.mk HB.out (by rw [HSP.out, e_s]; simp [K_si.out, K_st.out, K_id.out])
      · have f_id : decide (0 < h.i.2.1) = false := decide_eq_false k_id; have K_id := Lib.hid k_id; clear k_id
        go_wp2_with (first | (go_at_call 163; (with_reducible refine (c_s _).mono ?_); rintro e w9 ⟨rfl, rfl⟩) | fail)
        go_ret
        exact RetB.mk HB.out (by rw [HSP.out, e_s]; simp [K_si.out, K_st.out, K_id.out])
end Go.Proofs.YthpjneobmmpbnaaGreatDoor

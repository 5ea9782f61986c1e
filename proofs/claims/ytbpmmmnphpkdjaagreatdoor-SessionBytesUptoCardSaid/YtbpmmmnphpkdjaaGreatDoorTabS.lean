/- The walks of the document's Same at sessions, of the law's own and sameAll. Condition: texts shorter than 2^20. -/
import Derived.Test.YtbpmmmnphpkdjaaGreatDoorSesR
namespace Go.Proofs.YtbpmmmnphpkdjaaGreatDoor
open Go.RowKit
open Classical in
set_option maxRecDepth 100000 in
set_option maxHeartbeats 2000000 in
theorem sameSes_any (i tm : Int) (A : Option Addr) (n c : Nat) (l : List IdV) (i2 t2 : Int) (A2 : Option Addr) (n2 c2 : Nat) (l2 : List IdV) (w : World) (hz : Sl w w.heap.size encId 2 A n l) (hz2 : Sl w w.heap.size encId 2 A2 n2 l2) (hn : n ≤ 1048576) :
    Calls Tryz.prog 55 #[.agg #[.int .i64 i, .int .i32 tm, .slice A n c], .agg #[.int .i64 i2, .int .i32 t2, .slice A2 n2 c2]] w (RetB w (decide ((i, tm, l) = (i2, t2, l2)))) := by
  have hb1 : Below w.heap.size w (w.alloc (.cells #[.int .i64 i, .int .i32 tm, .slice A n c] 47)) := (Below.refl _ w).alloc (Nat.le_refl _) _
  have hb0 : Below w.heap.size w ((w.alloc (.cells #[.int .i64 i, .int .i32 tm, .slice A n c] 47)).alloc (.cells #[.int .i64 i2, .int .i32 t2, .slice A2 n2 c2] 47)) := hb1.alloc hb1.size _
  have h0 : ((w.alloc (.cells #[.int .i64 i, .int .i32 tm, .slice A n c] 47)).alloc (.cells #[.int .i64 i2, .int .i32 t2, .slice A2 n2 c2] 47)).heap[w.heap.size]? = some (.cells #[.int .i64 i, .int .i32 tm, .slice A n c] 47 (0, 0)) :=
    ((Below.refl _ _).alloc (Nat.le_refl _) _ |>.block w.heap.size (by simp)).trans (heap_alloc_new w _)
  have h1 : ((w.alloc (.cells #[.int .i64 i, .int .i32 tm, .slice A n c] 47)).alloc (.cells #[.int .i64 i2, .int .i32 t2, .slice A2 n2 c2] 47)).heap[w.heap.size + 1]? = some (.cells #[.int .i64 i2, .int .i32 t2, .slice A2 n2 c2] 47 (0, 0)) := by
    have := heap_alloc_new (w.alloc (.cells #[.int .i64 i, .int .i32 tm, .slice A n c] 47)) (.cells #[.int .i64 i2, .int .i32 t2, .slice A2 n2 c2] 47)
    rwa [World.size_alloc] at this
  have y0 : ((w.alloc (.cells #[.int .i64 i, .int .i32 tm, .slice A n c] 47)).alloc (.cells #[.int .i64 i2, .int .i32 t2, .slice A2 n2 c2] 47)).cell? ⟨w.heap.size, 0, none⟩ = some (.int .i64 i) := by rw [cellH h0]; rfl
  have y1 : ((w.alloc (.cells #[.int .i64 i, .int .i32 tm, .slice A n c] 47)).alloc (.cells #[.int .i64 i2, .int .i32 t2, .slice A2 n2 c2] 47)).cell? ⟨w.heap.size, 1, none⟩ = some (.int .i32 tm) := by rw [cellH h0]; rfl
  have y2 : ((w.alloc (.cells #[.int .i64 i, .int .i32 tm, .slice A n c] 47)).alloc (.cells #[.int .i64 i2, .int .i32 t2, .slice A2 n2 c2] 47)).cell? ⟨w.heap.size, 2, none⟩ = some (.slice A n c) := by rw [cellH h0]; rfl
  have x0 : ((w.alloc (.cells #[.int .i64 i, .int .i32 tm, .slice A n c] 47)).alloc (.cells #[.int .i64 i2, .int .i32 t2, .slice A2 n2 c2] 47)).cell? ⟨w.heap.size + 1, 0, none⟩ = some (.int .i64 i2) := by rw [cellH h1]; rfl
  have x1 : ((w.alloc (.cells #[.int .i64 i, .int .i32 tm, .slice A n c] 47)).alloc (.cells #[.int .i64 i2, .int .i32 t2, .slice A2 n2 c2] 47)).cell? ⟨w.heap.size + 1, 1, none⟩ = some (.int .i32 t2) := by rw [cellH h1]; rfl
  have x2 : ((w.alloc (.cells #[.int .i64 i, .int .i32 tm, .slice A n c] 47)).alloc (.cells #[.int .i64 i2, .int .i32 t2, .slice A2 n2 c2] 47)).cell? ⟨w.heap.size + 1, 2, none⟩ = some (.slice A2 n2 c2) := by rw [cellH h1]; rfl
  have HZ := Lib.hid (hz.below hb0); have HZ2 := Lib.hid (hz2.below hb0); have HB := Lib.hid hb0
  have hlen := hz.len; have hlen2 := hz2.len
  clear hz hz2 h0 h1 hb1 hb0
  by_cases hall : i = i2 ∧ tm = t2 ∧ n = n2
  · obtain ⟨e1, e2, e3⟩ := hall
    subst e1 e2 e3
    have hxl : (n : Int) ≤ 1048576 := by omega
    have HXL := Lib.hid hlen; have HYL := Lib.hid hlen2
    clear hlen hlen2
    obtain ⟨bb, HBB⟩ : ∃ bb, Hid (decide ((i, tm, l) = (i, tm, l2)) = bb) := ⟨_, Lib.hid rfl⟩
    rw [HBB.out]
    go_enter Tryz.func55, Tryz.ntmps55
    go_wp2_with fail
    generalize ((w.alloc (.cells #[.int .i64 i, .int .i32 tm, .slice A n c] 47)).alloc (.cells #[.int .i64 i, .int .i32 tm, .slice A2 n c2] 47)) = W at *
    go_loopw [5] (fun j wr => ∃ (k q : Nat), j = .int .i64 ↑k ∧ k ≤ n ∧ (∀ j, j < k → l[j]! = l2[j]!) ∧ wr = W.drewN q) (fun j _ => n - (intOf j).toNat)
    case atStart => exact ⟨0, 0, rfl, by omega, fun j hj => absurd hj (by omega), rfl⟩
    case round =>
      obtain ⟨k, q, rfl, hk, hall, rfl⟩ := hrel
      have HA := Lib.hid hall; clear hall
      by_cases hlt : k < n
      · obtain ⟨b, off, hA, _, p0, p1⟩ := SlId.at_ HZ.out hlt
        obtain ⟨b', off', hA', _, r0, r1⟩ := SlId.at_ HZ2.out hlt
        have hk2 : ((k : Nat) : Int) < (n : Int) := by omega
        subst hA hA'
        have HWW := Lib.hid (And.intro HZ HZ2)
        clear HZ HZ2
        by_cases he : l[k]! = l2[k]!
        · have HA1 := Lib.hid (show ∀ j, j < k + 1 → l[j]! = l2[j]! from fun j hj => by rcases Nat.lt_succ_iff_lt_or_eq.1 hj with h | rfl; exact HA.out j h; exact he)
          rw [he] at p0 p1
          clear he
          generalize l2[k]! = y at *
          obtain ⟨s, t⟩ := y
          have hq := fun w : World => (neqId w s t s t).trans (by simp : _ = Result.ok (.bool false) w)
          go_wp2
          go_quiet (fail)
          go_wp2
          go_roundw
          case rel => exact ⟨k + 1, q + nq, by go_num, by omega, HA1.out, by first | rfl | rw [World.drewN_drewN]⟩
          case measure => simp [intOf]; omega
        · have HE := Lib.hid (show decide ((i, tm, l) = (i, tm, l2)) = false from decide_eq_false fun e => he (by
            injection e with e1 e2
            injection e2 with e2 e3
            rw [e3]))
          have hd : (!decide (l[k]! = l2[k]!)) = true := by rw [decide_eq_false he]; rfl
          have HW := Lib.hid hd
          clear he hd
          generalize l[k]! = x at *
          generalize l2[k]! = y at *
          obtain ⟨s, t⟩ := x
          obtain ⟨s', t'⟩ := y
          have hq := fun w : World => (neqId w s t s' t').trans (by rw [HW.out] : _ = Result.ok (.bool true) w)
          go_wp2
          go_quiet (fail)
          go_wp2
          go_ret
          exact RetB.mk (drewN_below (drewN_below HB.out q) nq) (HE.out.symm.trans HBB.out)
      · have hk2 : ¬ ((k : Nat) : Int) < (n : Int) := by omega
        have HE := Lib.hid (show decide ((i, tm, l) = (i, tm, l2)) = true from decide_eq_true (by
          have hll : l = l2 := list_ext_bang (by rw [HXL.out, HYL.out]) fun j hj => HA.out j (by have := HXL.out; omega)
          rw [hll]))
        go_wp2
        go_ret
        exact RetB.mk (drewN_below HB.out q) (HE.out.symm.trans HBB.out)
  · have HF := Lib.hid (show decide ((i, tm, l) = (i2, t2, l2)) = false from decide_eq_false fun e => hall (by
      injection e with e1 e2
      injection e2 with e2 e3
      exact ⟨e1, e2, by rw [← hlen, ← hlen2, e3]⟩))
    have hd : (i != i2) = true ∨ ((i != i2) = false ∧ (tm != t2) = true) ∨ ((i != i2) = false ∧ (tm != t2) = false ∧ ((n : Int) != (n2 : Int)) = true) := by
      by_cases e1 : i = i2
      · by_cases e2 : tm = t2
        · refine .inr (.inr ⟨by simpa using e1, by simpa using e2, bne_iff_ne.2 fun e3 => hall ⟨e1, e2, by omega⟩⟩)
        · exact .inr (.inl ⟨by simpa using e1, by simpa using e2⟩)
      · exact .inl (by simpa using e1)
    clear hall hlen hlen2
    rcases hd with hd1 | ⟨hd1, hd2⟩ | ⟨hd1, hd2, hd3⟩
    all_goals (
      go_enter Tryz.func55, Tryz.ntmps55
      go_wp2_with fail
      go_ret
      exact RetB.mk HB.out HF.out.symm)
set_option maxRecDepth 100000 in
set_option maxHeartbeats 1000000 in
theorem lawOwn_any (i tm : Int) (A : Option Addr) (n c : Nat) (l : List IdV) (w : World) (hz : Sl w w.heap.size encId 2 A n l) (hA : A = none → n = 0 ∧ c = 0) (hn : n ≤ 1048576) : Calls Tryz.prog 44 #[.agg #[.int .i64 i, .int .i32 tm, .slice A n c]] w (OwnSes i tm n l w) := by
  have hb1 : Below w.heap.size w (w.alloc (.cells #[.int .i64 i, .int .i32 tm, .slice A n c] 47)) := (Below.refl _ w).alloc (Nat.le_refl _) _
  have hb0 : Below w.heap.size w ((w.alloc (.cells #[.int .i64 i, .int .i32 tm, .slice A n c] 47)).alloc (.cells #[.int .i64 0, .int .i32 0, .slice none 0 0] 47)) := hb1.alloc hb1.size _
  have hb2 : Below w.heap.size w (((w.alloc (.cells #[.int .i64 i, .int .i32 tm, .slice A n c] 47)).alloc (.cells #[.int .i64 0, .int .i32 0, .slice none 0 0] 47)).alloc (.cells #[] 155)) := hb0.alloc hb0.size _
  have hbx : Below ((w.alloc (.cells #[.int .i64 i, .int .i32 tm, .slice A n c] 47)).alloc (.cells #[.int .i64 0, .int .i32 0, .slice none 0 0] 47)).heap.size ((w.alloc (.cells #[.int .i64 i, .int .i32 tm, .slice A n c] 47)).alloc (.cells #[.int .i64 0, .int .i32 0, .slice none 0 0] 47)) (((w.alloc (.cells #[.int .i64 i, .int .i32 tm, .slice A n c] 47)).alloc (.cells #[.int .i64 0, .int .i32 0, .slice none 0 0] 47)).alloc (.cells #[] 155)) := (Below.refl _ _).alloc (Nat.le_refl _) _
  have hown : (((w.alloc (.cells #[.int .i64 i, .int .i32 tm, .slice A n c] 47)).alloc (.cells #[.int .i64 0, .int .i32 0, .slice none 0 0] 47)).alloc (.cells #[] 155)).ownsRow (w.heap.size + 1 + 1) 155 2 (.slice (some ⟨w.heap.size + 1 + 1, 0, none⟩) 0 0) 0 [] := by
    have := own_empty (T := 155) (k := 2) ((w.alloc (.cells #[.int .i64 i, .int .i32 tm, .slice A n c] 47)).alloc (.cells #[.int .i64 0, .int .i32 0, .slice none 0 0] 47))
    rwa [World.size_alloc, World.size_alloc] at this
  have h0 : (((w.alloc (.cells #[.int .i64 i, .int .i32 tm, .slice A n c] 47)).alloc (.cells #[.int .i64 0, .int .i32 0, .slice none 0 0] 47)).alloc (.cells #[] 155)).heap[w.heap.size]? = some (.cells #[.int .i64 i, .int .i32 tm, .slice A n c] 47 (0, 0)) :=
    (hbx.block w.heap.size (by simp only [World.size_alloc]; omega)).trans (((Below.refl _ _).alloc (Nat.le_refl _) _ |>.block w.heap.size (by simp)).trans (heap_alloc_new w _))
  have h1 : (((w.alloc (.cells #[.int .i64 i, .int .i32 tm, .slice A n c] 47)).alloc (.cells #[.int .i64 0, .int .i32 0, .slice none 0 0] 47)).alloc (.cells #[] 155)).heap[w.heap.size + 1]? = some (.cells #[.int .i64 0, .int .i32 0, .slice none 0 0] 47 (0, 0)) := by
    have := heap_alloc_new (w.alloc (.cells #[.int .i64 i, .int .i32 tm, .slice A n c] 47)) (.cells #[.int .i64 0, .int .i32 0, .slice none 0 0] 47)
    rw [World.size_alloc] at this
    exact (hbx.block (w.heap.size + 1) (by simp only [World.size_alloc]; omega)).trans this
  have HSZ : Hid ((((w.alloc (.cells #[.int .i64 i, .int .i32 tm, .slice A n c] 47)).alloc (.cells #[.int .i64 0, .int .i32 0, .slice none 0 0] 47)).alloc (.cells #[] 155)).heap.size = w.heap.size + 3) := Lib.hid (by simp)
  have HZ := Lib.hid (hz.belowMore hb2 hb2.size); have HA := Lib.hid hA; have HB := Lib.hid hb2; have HOWN := Lib.hid hown
  have H0 := Lib.hid h0; have H1 := Lib.hid h1
  have HBS := Lib.hid (show w.heap.size + 1 + 1 ≤ (((w.alloc (.cells #[.int .i64 i, .int .i32 tm, .slice A n c] 47)).alloc (.cells #[.int .i64 0, .int .i32 0, .slice none 0 0] 47)).alloc (.cells #[] 155)).heap.size by simp)
  clear hz hA hb0 hb1 hb2 hbx hown h0 h1
  go_enter Tryz.func44, Tryz.ntmps44
  go_wp2_with (at_builtin; refine wpList_appG elemId rfl _ _ rfl (w.heap.size + 1 + 1) (some ⟨w.heap.size + 1 + 1, 0, none⟩) 0 0 [] ?hx HOWN.out A n c l ?hy HZ.out HA.out (by omega) HBS.out ?hk)
  (try case hx => rfl)
  (try case hy => rfl)
  case hk =>
    generalize (((w.alloc (.cells #[.int .i64 i, .int .i32 tm, .slice A n c] 47)).alloc (.cells #[.int .i64 0, .int .i32 0, .slice none 0 0] 47)).alloc (.cells #[] 155)) = W at *
    intro A1 c1 w1 hr hb1
    have hr : RowId w1 (w.heap.size + 1 + 1) A1 n c1 l := by unfold RowId; simpa using hr
    have hsz1 : W.heap.size ≤ w1.heap.size := hb1.size
    have g0 := (hb1.block w.heap.size (by omega)).trans H0.out
    have g1 := (hb1.block (w.heap.size + 1) (by omega)).trans H1.out
    have y0 : w1.cell? ⟨w.heap.size, 0, none⟩ = some (.int .i64 i) := by rw [cellH g0]; rfl
    have y1 : w1.cell? ⟨w.heap.size, 1, none⟩ = some (.int .i32 tm) := by rw [cellH g0]; rfl
    have y2 : w1.cell? ⟨w.heap.size, 2, none⟩ = some (.slice A n c) := by rw [cellH g0]; rfl
    have x0 : w1.cell? ⟨w.heap.size + 1, 0, none⟩ = some (.int .i64 0) := by rw [cellH g1]; rfl
    have x1 : w1.cell? ⟨w.heap.size + 1, 1, none⟩ = some (.int .i32 0) := by rw [cellH g1]; rfl
    have x2 : w1.cell? ⟨w.heap.size + 1, 2, none⟩ = some (.slice none 0 0) := by rw [cellH g1]; rfl
    have f2 : w1.frozen? ⟨w.heap.size, 2, none⟩ = false := by simp [World.frozen?, g0]
    have e0 : w1.frozen? ⟨w.heap.size + 1, 0, none⟩ = false := by simp [World.frozen?, g1]
    have e1 : w1.frozen? ⟨w.heap.size + 1, 1, none⟩ = false := by simp [World.frozen?, g1]
    have e2 : w1.frozen? ⟨w.heap.size + 1, 2, none⟩ = false := by simp [World.frozen?, g1]
    have G := Lib.hid (And.intro g0 g1)
    have HR := Lib.hid hr; have HB1 := Lib.hid (HB.out.trans (hb1.mono (show w.heap.size ≤ w.heap.size + 1 + 1 by omega)))
    have HS1 := Lib.hid (show w.heap.size ≤ w1.heap.size by have := HB.out.size; omega)
    clear hr hb1 g0 g1
    go_wp2_with fail
    have hF : Fr [w.heap.size, w.heap.size + 1] w1 ((((w1.setCell ⟨w.heap.size, 2, none⟩ (.slice A1 n c1)).setCell ⟨w.heap.size + 1, 0, none⟩ (.int .i64 i)).setCell ⟨w.heap.size + 1, 1, none⟩ (.int .i32 tm)).setCell ⟨w.heap.size + 1, 2, none⟩ (.slice A1 n c1)) :=
      ((((Fr.refl _ w1).set (by simp) 2 _).set (by simp) 0 _).set (by simp) 1 _).set (by simp) 2 _
    have hC : ((((w1.setCell ⟨w.heap.size, 2, none⟩ (.slice A1 n c1)).setCell ⟨w.heap.size + 1, 0, none⟩ (.int .i64 i)).setCell ⟨w.heap.size + 1, 1, none⟩ (.int .i32 tm)).setCell ⟨w.heap.size + 1, 2, none⟩ (.slice A1 n c1)).heap[w.heap.size + 1]? = some (.cells #[.int .i64 i, .int .i32 tm, .slice A1 n c1] 47 (0, 0)) :=
      heap_setN (heap_setN (heap_setN ((heap_set_other w1 w.heap.size 2 _ (show w.heap.size + 1 ≠ w.heap.size by omega)).trans G.out.2) _) _) _
    generalize ((((w1.setCell ⟨w.heap.size, 2, none⟩ (.slice A1 n c1)).setCell ⟨w.heap.size + 1, 0, none⟩ (.int .i64 i)).setCell ⟨w.heap.size + 1, 1, none⟩ (.int .i32 tm)).setCell ⟨w.heap.size + 1, 2, none⟩ (.slice A1 n c1)) = V at *
    have q0 : V.cell? ⟨w.heap.size + 1, 0, none⟩ = some (.int .i64 i) := by rw [cellH hC]; rfl
    have q1 : V.cell? ⟨w.heap.size + 1, 1, none⟩ = some (.int .i32 tm) := by rw [cellH hC]; rfl
    have q2 : V.cell? ⟨w.heap.size + 1, 2, none⟩ = some (.slice A1 n c1) := by rw [cellH hC]; rfl
    have hR : RowId V w.heap.size A1 n c1 l := RowId.base (b := w.heap.size + 1 + 1) (own_fr HR.out hF (fun g hg => by simp at hg; omega)) (by omega)
    have hB : Below w.heap.size w V := HB1.out.trans (hF.below HS1.out (fun g hg => by simp at hg; omega))
    (try simp only [Exit.inBlock, Exit.then])
    refine bodyPost_ret ((results_cell1 rfl _ _ _).trans ?_) rfl ⟨⟨A1, c1, rfl, hR⟩, hB⟩
    go_simp
end Go.Proofs.YtbpmmmnphpkdjaaGreatDoor

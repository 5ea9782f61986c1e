/- The walk of arborref01.Kinds: an array that tells how many characters of each kind the text has. -/
import Derived.Test.YtenhdbjkpopfmaaDoorRMap
namespace Go.Proofs.YtenhdbjkpopfmaaDoor
open Go.RowKit

theorem refOfK (s : ByteArray) (p : Nat) (w : World) :
    Calls Tryd.prog 18 #[.int .i64 (charR s p)] w fun e w' => e = .returned (.int .i64 (charK s p)) ∧ w = w' := by
  rw [← ofI_charR]; exact refOf_any _ _

def cells9 (c : Int → Nat) : Array Value := #[.int .i64 (c 0), .int .i64 (c 1), .int .i64 (c 2), .int .i64 (c 3), .int .i64 (c 4), .int .i64 (c 5), .int .i64 (c 6), .int .i64 (c 7), .int .i64 (c 8)]
def upd (c : Int → Nat) (j : Int) : Int → Nat := fun k => if k = j then c k + 1 else c k
theorem setCell_block {w : World} {b : Nat} {C : Array Value} {t : TypeId} {fz : Nat × Nat} (h : w.heap[b]? = some (.cells C t fz)) (j : Nat) (v : Value) : (w.setCell ⟨b, j, none⟩ v).heap[b]? = some (.cells (C.setIfInBounds j v) t fz) := by
  simp [World.setCell, Array.getElem?_modify, h]

theorem heap_new2 (w : World) (o o2 : Obj) : ((w.alloc o).alloc o2).heap[w.heap.size + 1]? = some o2 := by
  have e : (w.alloc o).heap.size = w.heap.size + 1 := by simp
  rw [← e]; exact (MapKept.heap_alloc _ _).1
theorem heap_new1 (w : World) (o o2 : Obj) : ((w.alloc o).alloc o2).heap[w.heap.size]? = some o := by
  rw [Below.heap_alloc _ _ _ (by simp)]; exact (MapKept.heap_alloc _ _).1
def RKRel (s : ByteArray) (w : World) (i : Value) (wr : World) : Prop := ∃ (p f : Nat) (c : Int → Nat), i = .int .i64 ↑p ∧ wr.heap[w.heap.size + 1]? = some (.cells (cells9 c) 24 (0, 0)) ∧ wr.heap[w.heap.size]? = some (.cells (cells9 fun _ => 0) 24 (0, 0)) ∧ (∀ k, c k + cntF s k f p = cntI s k) ∧ (∀ k, c k ≤ p) ∧ p ≤ s.size ∧ s.size ≤ p + f ∧ Below w.heap.size w wr

def cellsF (f : Nat → Value) : Array Value := #[f 0, f 1, f 2, f 3, f 4, f 5, f 6, f 7, f 8]
theorem setF {w : World} {b : Nat} {f : Nat → Value} {t : TypeId} {fz : Nat × Nat} (h : w.heap[b]? = some (.cells (cellsF f) t fz)) (k : Nat) (hk : k < 9) (v : Value) :
    (w.setCell ⟨b, k, none⟩ v).heap[b]? = some (.cells (cellsF fun j => if j = k then v else f j) t fz) := by
  rw [setCell_block h]
  congr 2
  match k, hk with
  | 0, _ => rfl
  | 1, _ => rfl
  | 2, _ => rfl
  | 3, _ => rfl
  | 4, _ => rfl
  | 5, _ => rfl
  | 6, _ => rfl
  | 7, _ => rfl
  | 8, _ => rfl
theorem chain9 (w wr : World) (c : Int → Nat) (h0 : wr.heap[w.heap.size]? = some (.cells (cells9 fun _ => 0) 24 (0, 0))) (hb : Below w.heap.size w wr) :
    Below w.heap.size w (((((((((wr.setCell ⟨w.heap.size, 0, none⟩ (.int .i64 (c 0))).setCell ⟨w.heap.size, 1, none⟩ (.int .i64 (c 1))).setCell ⟨w.heap.size, 2, none⟩ (.int .i64 (c 2))).setCell ⟨w.heap.size, 3, none⟩ (.int .i64 (c 3))).setCell ⟨w.heap.size, 4, none⟩ (.int .i64 (c 4))).setCell ⟨w.heap.size, 5, none⟩ (.int .i64 (c 5))).setCell ⟨w.heap.size, 6, none⟩ (.int .i64 (c 6))).setCell ⟨w.heap.size, 7, none⟩ (.int .i64 (c 7))).setCell ⟨w.heap.size, 8, none⟩ (.int .i64 (c 8))) ∧ (((((((((wr.setCell ⟨w.heap.size, 0, none⟩ (.int .i64 (c 0))).setCell ⟨w.heap.size, 1, none⟩ (.int .i64 (c 1))).setCell ⟨w.heap.size, 2, none⟩ (.int .i64 (c 2))).setCell ⟨w.heap.size, 3, none⟩ (.int .i64 (c 3))).setCell ⟨w.heap.size, 4, none⟩ (.int .i64 (c 4))).setCell ⟨w.heap.size, 5, none⟩ (.int .i64 (c 5))).setCell ⟨w.heap.size, 6, none⟩ (.int .i64 (c 6))).setCell ⟨w.heap.size, 7, none⟩ (.int .i64 (c 7))).setCell ⟨w.heap.size, 8, none⟩ (.int .i64 (c 8))).heap[w.heap.size]? = some (.cells (cells9 c) 24 (0, 0)) :=
  by
  have h0' : wr.heap[w.heap.size]? = some (.cells (cellsF fun _ => .int .i64 0) 24 (0, 0)) := h0
  refine ⟨(((((((((hb.setCell (p := ⟨w.heap.size, 0, none⟩) (Nat.le_refl _) _).setCell (p := ⟨w.heap.size, 1, none⟩) (Nat.le_refl _) _).setCell (p := ⟨w.heap.size, 2, none⟩) (Nat.le_refl _) _).setCell (p := ⟨w.heap.size, 3, none⟩) (Nat.le_refl _) _).setCell (p := ⟨w.heap.size, 4, none⟩) (Nat.le_refl _) _).setCell (p := ⟨w.heap.size, 5, none⟩) (Nat.le_refl _) _).setCell (p := ⟨w.heap.size, 6, none⟩) (Nat.le_refl _) _).setCell (p := ⟨w.heap.size, 7, none⟩) (Nat.le_refl _) _).setCell (p := ⟨w.heap.size, 8, none⟩) (Nat.le_refl _) _), ?_⟩
  have g := (setF (setF (setF (setF (setF (setF (setF (setF (setF h0' 0 (by decide) (.int .i64 (c 0))) 1 (by decide) (.int .i64 (c 1))) 2 (by decide) (.int .i64 (c 2))) 3 (by decide) (.int .i64 (c 3))) 4 (by decide) (.int .i64 (c 4))) 5 (by decide) (.int .i64 (c 5))) 6 (by decide) (.int .i64 (c 6))) 7 (by decide) (.int .i64 (c 7))) 8 (by decide) (.int .i64 (c 8)))
  rw [g]
  rfl

set_option maxHeartbeats 1000000 in
theorem refKinds_any (s : ByteArray) (hs : s.size ≤ 140737488355328) (w : World) :
    Calls Tryd.prog 9 #[.string s] w fun e w' => e = .returned (.agg (cells9 (cntI s))) ∧ Below w.heap.size w w' := by
  go_enter Tryd.func9, Tryd.ntmps9
  go_wp2
  go_loopw [4] (RKRel s w) (fun i _ => s.size - (intOf i).toNat)
  case atStart => exact ⟨0, s.size, fun _ => 0, rfl, heap_new2 _ _ _, heap_new1 _ _ _, fun k => by simp [cntI], fun _ => Nat.le_refl _, by omega, by omega, ((Below.refl _ w).alloc (Nat.le_refl _) _).alloc (by simp) _⟩
  case round =>
    obtain ⟨p, f, c, rfl, hb1, hb0, hF, hcp, hps, hfu, hbw⟩ := hrel
    have HF := Lib.hid hF; have HCP := Lib.hid hcp; have HB1 := Lib.hid hb1; have HB0 := Lib.hid hb0; have HB := Lib.hid hbw
    clear hF hcp hb1 hb0 hbw
    by_cases hp : p < s.size
    · have hw1 := charW_pos s p
      have hw2 := charW_le s p hp
      have hr := charR_range s p
      have hkr := charK_range s p
      obtain ⟨g, rfl⟩ : ∃ g, f = g + 1 := ⟨f - 1, by omega⟩
      have hall : ∀ j : Int, 1 ≤ j → j ≤ 8 → charK s p = j → ∃ n : Nat, j = n ∧ n < 9 := fun j h1 h2 _ => ⟨j.toNat, by omega, by omega⟩
      obtain ⟨j, hj, hj9⟩ := hall (charK s p) (by omega) (by omega) rfl
      have HJ := Lib.hid hj; clear hj hall
      have hcj : c j ≤ p := HCP.out j
      have hcell : wr.cell? ⟨w.heap.size + 1, j, none⟩ = some (.int .i64 (c (j : Int))) := by
        rw [Lib.cell_of_heap HB1.out]
        match j, hj9 with
        | 0, _ => rfl
        | 1, _ => rfl
        | 2, _ => rfl
        | 3, _ => rfl
        | 4, _ => rfl
        | 5, _ => rfl
        | 6, _ => rfl
        | 7, _ => rfl
        | 8, _ => rfl
      have hfz : wr.frozen? ⟨w.heap.size + 1, j, none⟩ = false := Lib.frozen_of_heap HB1.out j
      go_wp2_with fail
      refine (char_any s p hp hs _).mono ?_
      rintro e w' ⟨rfl, rfl⟩
      go_wp2_with fail
      refine (refOfK s p _).mono ?_
      rintro e w' ⟨rfl, rfl⟩
      rw [HJ.out]
      go_wp2
      go_roundw
      case rel =>
        refine ⟨p + charW s p, g, upd c j, by go_num, ?_, ?_, ?_, ?_, by omega, by omega, HB.out.setCell (p := ⟨w.heap.size + 1, j, none⟩) (by show w.heap.size ≤ w.heap.size + 1; omega) _⟩
        · rw [setCell_block HB1.out]
          congr 2
          match j, hj9 with
          | 0, _ => rfl
          | 1, _ => rfl
          | 2, _ => rfl
          | 3, _ => rfl
          | 4, _ => rfl
          | 5, _ => rfl
          | 6, _ => rfl
          | 7, _ => rfl
          | 8, _ => rfl
        · rw [Below.heap_setCell _ _ _ _ (by show w.heap.size ≠ w.heap.size + 1; omega)]; exact HB0.out
        · intro k
          have h1 := HF.out k
          rw [cntF_go s k g p hp] at h1
          unfold upd
          by_cases e : k = (j : Int)
          · rw [if_pos (by rw [HJ.out]; exact e.symm)] at h1; rw [if_pos e]; omega
          · rw [if_neg (by rw [HJ.out]; exact fun h => e h.symm)] at h1; rw [if_neg e]; omega
        · intro k
          have h1 := HCP.out k
          unfold upd; split <;> omega
      case measure => simp [intOf]; omega
    · have HE : Hid (c = cntI s) := Lib.hid (by
        funext k
        have h1 := HF.out k
        rw [cntF_end s k f p hp] at h1
        omega)
      have l0 : wr.cell? ⟨w.heap.size + 1, 0, none⟩ = some (.int .i64 (c 0)) := by rw [Lib.cell_of_heap HB1.out]; rfl
      have z0 : wr.cell? ⟨w.heap.size, 0, none⟩ = some (.int .i64 0) := by rw [Lib.cell_of_heap HB0.out]; rfl
      have f0 : wr.frozen? ⟨w.heap.size, 0, none⟩ = false := Lib.frozen_of_heap HB0.out 0
      have l1 : wr.cell? ⟨w.heap.size + 1, 1, none⟩ = some (.int .i64 (c 1)) := by rw [Lib.cell_of_heap HB1.out]; rfl
      have z1 : wr.cell? ⟨w.heap.size, 1, none⟩ = some (.int .i64 0) := by rw [Lib.cell_of_heap HB0.out]; rfl
      have f1 : wr.frozen? ⟨w.heap.size, 1, none⟩ = false := Lib.frozen_of_heap HB0.out 1
      have l2 : wr.cell? ⟨w.heap.size + 1, 2, none⟩ = some (.int .i64 (c 2)) := by rw [Lib.cell_of_heap HB1.out]; rfl
      have z2 : wr.cell? ⟨w.heap.size, 2, none⟩ = some (.int .i64 0) := by rw [Lib.cell_of_heap HB0.out]; rfl
      have f2 : wr.frozen? ⟨w.heap.size, 2, none⟩ = false := Lib.frozen_of_heap HB0.out 2
      have l3 : wr.cell? ⟨w.heap.size + 1, 3, none⟩ = some (.int .i64 (c 3)) := by rw [Lib.cell_of_heap HB1.out]; rfl
      have z3 : wr.cell? ⟨w.heap.size, 3, none⟩ = some (.int .i64 0) := by rw [Lib.cell_of_heap HB0.out]; rfl
      have f3 : wr.frozen? ⟨w.heap.size, 3, none⟩ = false := Lib.frozen_of_heap HB0.out 3
      have l4 : wr.cell? ⟨w.heap.size + 1, 4, none⟩ = some (.int .i64 (c 4)) := by rw [Lib.cell_of_heap HB1.out]; rfl
      have z4 : wr.cell? ⟨w.heap.size, 4, none⟩ = some (.int .i64 0) := by rw [Lib.cell_of_heap HB0.out]; rfl
      have f4 : wr.frozen? ⟨w.heap.size, 4, none⟩ = false := Lib.frozen_of_heap HB0.out 4
      have l5 : wr.cell? ⟨w.heap.size + 1, 5, none⟩ = some (.int .i64 (c 5)) := by rw [Lib.cell_of_heap HB1.out]; rfl
      have z5 : wr.cell? ⟨w.heap.size, 5, none⟩ = some (.int .i64 0) := by rw [Lib.cell_of_heap HB0.out]; rfl
      have f5 : wr.frozen? ⟨w.heap.size, 5, none⟩ = false := Lib.frozen_of_heap HB0.out 5
      have l6 : wr.cell? ⟨w.heap.size + 1, 6, none⟩ = some (.int .i64 (c 6)) := by rw [Lib.cell_of_heap HB1.out]; rfl
      have z6 : wr.cell? ⟨w.heap.size, 6, none⟩ = some (.int .i64 0) := by rw [Lib.cell_of_heap HB0.out]; rfl
      have f6 : wr.frozen? ⟨w.heap.size, 6, none⟩ = false := Lib.frozen_of_heap HB0.out 6
      have l7 : wr.cell? ⟨w.heap.size + 1, 7, none⟩ = some (.int .i64 (c 7)) := by rw [Lib.cell_of_heap HB1.out]; rfl
      have z7 : wr.cell? ⟨w.heap.size, 7, none⟩ = some (.int .i64 0) := by rw [Lib.cell_of_heap HB0.out]; rfl
      have f7 : wr.frozen? ⟨w.heap.size, 7, none⟩ = false := Lib.frozen_of_heap HB0.out 7
      have l8 : wr.cell? ⟨w.heap.size + 1, 8, none⟩ = some (.int .i64 (c 8)) := by rw [Lib.cell_of_heap HB1.out]; rfl
      have z8 : wr.cell? ⟨w.heap.size, 8, none⟩ = some (.int .i64 0) := by rw [Lib.cell_of_heap HB0.out]; rfl
      have f8 : wr.frozen? ⟨w.heap.size, 8, none⟩ = false := Lib.frozen_of_heap HB0.out 8
      go_wp2
      rw [← HE.out]
      have h9 := chain9 w wr c HB0.out HB.out
      clear l0 l1 l2 l3 l4 l5 l6 l7 l8 z0 z1 z2 z3 z4 z5 z6 z7 z8 f0 f1 f2 f3 f4 f5 f6 f7 f8
      generalize (((((((((wr.setCell ⟨w.heap.size, 0, none⟩ (.int .i64 (c 0))).setCell ⟨w.heap.size, 1, none⟩ (.int .i64 (c 1))).setCell ⟨w.heap.size, 2, none⟩ (.int .i64 (c 2))).setCell ⟨w.heap.size, 3, none⟩ (.int .i64 (c 3))).setCell ⟨w.heap.size, 4, none⟩ (.int .i64 (c 4))).setCell ⟨w.heap.size, 5, none⟩ (.int .i64 (c 5))).setCell ⟨w.heap.size, 6, none⟩ (.int .i64 (c 6))).setCell ⟨w.heap.size, 7, none⟩ (.int .i64 (c 7))).setCell ⟨w.heap.size, 8, none⟩ (.int .i64 (c 8))) = W at h9 ⊢
      obtain ⟨bw, hE8⟩ := h9
      have l0 : W.cell? ⟨w.heap.size, 0, none⟩ = some (.int .i64 (c 0)) := by rw [Lib.cell_of_heap hE8]; rfl
      have l1 : W.cell? ⟨w.heap.size, 1, none⟩ = some (.int .i64 (c 1)) := by rw [Lib.cell_of_heap hE8]; rfl
      have l2 : W.cell? ⟨w.heap.size, 2, none⟩ = some (.int .i64 (c 2)) := by rw [Lib.cell_of_heap hE8]; rfl
      have l3 : W.cell? ⟨w.heap.size, 3, none⟩ = some (.int .i64 (c 3)) := by rw [Lib.cell_of_heap hE8]; rfl
      have l4 : W.cell? ⟨w.heap.size, 4, none⟩ = some (.int .i64 (c 4)) := by rw [Lib.cell_of_heap hE8]; rfl
      have l5 : W.cell? ⟨w.heap.size, 5, none⟩ = some (.int .i64 (c 5)) := by rw [Lib.cell_of_heap hE8]; rfl
      have l6 : W.cell? ⟨w.heap.size, 6, none⟩ = some (.int .i64 (c 6)) := by rw [Lib.cell_of_heap hE8]; rfl
      have l7 : W.cell? ⟨w.heap.size, 7, none⟩ = some (.int .i64 (c 7)) := by rw [Lib.cell_of_heap hE8]; rfl
      have l8 : W.cell? ⟨w.heap.size, 8, none⟩ = some (.int .i64 (c 8)) := by rw [Lib.cell_of_heap hE8]; rfl
      exact bodyPost_ret (v := .agg (cells9 c)) (by simp [results, Tryd.results9, go_sem, l0, l1, l2, l3, l4, l5, l6, l7, l8, cells9]) rfl ⟨rfl, bw⟩
end Go.Proofs.YtenhdbjkpopfmaaDoor

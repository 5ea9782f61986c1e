/- Where a zxid stands in a list: plain. No program; no condition. Arguments that are voters and numbers; liveQuorum; the law QueueQuorums. Condition: bulk at most 2^20. -/
import Derived.Test.YtbpmmmnphpkdjaaGreatDoorWRqA
import Derived.Test.YtbpmmmnphpkdjaaGreatDoorWVtq
import Derived.Test.YtbpmmmnphpkdjaaGreatDoorWQuoG
namespace Go.Proofs.YtbpmmmnphpkdjaaGreatDoor
set_option linter.unusedSimpArgs false
set_option maxRecDepth 100000
set_option maxHeartbeats 20000000
open Go.RowKit Go.MapKept Go.Maps
/-- how many stand ahead of a zxid -/
def fndN (st : QuT) (z : Int) : Nat := ((zxs st.L).takeWhile (fun y => decide (y < z))).length
def fndB (st : QuT) (z : Int) : Bool := decide (fndN st z < st.L.length) && (st.L[fndN st z]!.d.zx == z)
theorem qgY (p : Int → Bool) (zs : List Int) : ∀ k, k ≤ zs.length → (∀ j, j < k → p zs[j]! = true) → (k = zs.length ∨ (k < zs.length ∧ p zs[k]! = false)) → (zs.takeWhile p).length = k := by
 induction zs with
 | nil => intro k hk _ _; have : k = 0 := by simpa using hk
          subst this; rfl
 | cons x r ih =>
  intro k hk hall hend
  cases k with
  | zero =>
   rcases hend with h | ⟨_, h⟩
   ·simp at h
   ·have h' : p x = false := h
    rw [List.takeWhile_cons, h']; rfl
  | succ k =>
   have h0 : p x = true := hall 0 (by omega)
   rw [List.takeWhile_cons, h0]
   have := ih k (by simpa using hk) (fun j hj => by have := hall (j + 1) (by omega); simpa using this) (by
    rcases hend with h | ⟨h1, h2⟩
    ·exact .inl (by simpa using h)
    ·exact .inr ⟨by simpa using h1, by simpa using h2⟩)
   simp [this]
theorem qiV (st : QuT) (z : Int) : fndN st z ≤ st.L.length := by
 have h := (List.takeWhile_sublist (fun y => decide (y < z)) (l := zxs st.L)).length_le
 rw [qcv] at h; exact h
theorem qly (st : QuT) (z : Int) (k : Nat) (hk : k ≤ st.L.length) (hall : ∀ j, j < k → st.L[j]!.d.zx < z) (hend : k = st.L.length ∨ (k < st.L.length ∧ ¬ st.L[k]!.d.zx < z)) : fndN st z = k :=
 qgY _ _ k (by rw [qcv]; exact hk) (fun j hj => by rw [qdS _ _ (by omega)]; exact decide_eq_true (hall j hj)) (by
  rw [qcv]
  rcases hend with h | ⟨h1, h2⟩
  ·exact .inl h
  ·exact .inr ⟨h1, by rw [qdS _ _ h1]; exact decide_eq_false h2⟩)
/-- what stands ahead is below -/
theorem qju (st : QuT) (z : Int) (i : Nat) (hi : i < fndN st z) : st.L[i]!.d.zx < z := by
 have hl := qiV st z
 have h : ∀ (zs : List Int) (i : Nat), i < (zs.takeWhile (fun y => decide (y < z))).length → zs[i]! < z := by
  intro zs
  induction zs with
  | nil => intro i hi; simp at hi
  | cons x r ih =>
   intro i hi
   rw [List.takeWhile_cons] at hi
   split at hi
   ·rename_i hx
    cases i with
    | zero => simpa using hx
    | succ i => simpa using ih i (by simpa using hi)
   ·simp at hi
 have := h (zxs st.L) i hi
 rwa [qdS _ _ (by omega)] at this
/-- in a rising list what does not stand ahead is not below -/
theorem qig (st : QuT) (z : Int) (hr : qdb (zxs st.L)) (i : Nat) (h1 : fndN st z ≤ i) (hi : i < st.L.length) : z ≤ st.L[i]!.d.zx := by
 have h : ∀ (zs : List Int), qdb zs → ∀ i, (zs.takeWhile (fun y => decide (y < z))).length ≤ i → i < zs.length → z ≤ zs[i]! := by
  intro zs
  induction zs with
  | nil => intro _ i _ hi; simp at hi
  | cons x r ih =>
   intro hr i h1 hi
   have hp := List.pairwise_cons.1 (show (x :: r).Pairwise (· < ·) from hr)
   rw [List.takeWhile_cons] at h1
   split at h1
   ·cases i with
    | zero => simp at h1
    | succ i => simpa using ih hp.2 i (by simpa using h1) (by simpa using hi)
   ·rename_i hx
    have hx' : ¬ x < z := by simpa using hx
    cases i with
    | zero => simpa using hx'
    | succ i =>
     have hm : r[i]! ∈ r := by rw [getElem!_pos r i (by simpa using hi)]; exact List.getElem_mem _
     have := hp.1 _ hm
     have e : (x :: r)[i + 1]! = r[i]! := by simp
     rw [e]; omega
 have := h (zxs st.L) hr i h1 (by rw [qcv]; exact hi)
 rwa [qdS _ _ hi] at this
open Go.RowKit Go.MapKept Go.Maps Go.WideShapes
section
set_option maxRecDepth 100000
variable {H : Type} {enc : TypeId × Value → H} {w : World} {base : Nat} {spare : Nat → Bool} {held : Bool}
theorem qnA {fuel : Nat} {cs : List Value} {x : DataW H × List MemPlace} (h : DataW.trod enc Tryz.prog w base spare held fuel 33 cs = some x) : ∃ z : VtV, cs = encVt z ∧ wfI z.1 := by
 obtain ⟨ys, n, _, rfl, hlen, hyl, hf⟩ := DataW.trod_struct Tryz.underlying33 h
 have hc : Tryz.prog.cellsOf 33 = 2 := by kernel_rfl
 have h1 : Tryz.prog.cellsOf 3 = 1 := by kernel_rfl
 have h2 : Tryz.prog.cellsOf 2 = 1 := by kernel_rfl
 rw [hc] at hlen
 match cs, hlen with
 | [a, b], _ =>
  match ys, hyl with
  | [y0, y1], _ =>
   have g0 : DataW.trod enc Tryz.prog w base spare held n 3 (List.take (Tryz.prog.cellsOf 3) [a, b]) = some y0 := hf 0 _ rfl
   have g1 : DataW.trod enc Tryz.prog w base spare held n 2 (List.take (Tryz.prog.cellsOf 2) [b]) = some y1 := hf 1 _ rfl
   rw [h1] at g0
   rw [h2] at g1
   simp only [List.take_succ_cons, List.take_zero] at g0 g1
   obtain ⟨p0, e0, _, w0⟩ := DataW.trod_int Tryz.underlying3 g0
   obtain ⟨p1, e1, _, w1⟩ := DataW.trod_int Tryz.underlying2 g1
   injection e0 with e0; injection e1 with e1
   subst e0 e1
   exact ⟨(p0, p1), rfl, by simp [Lit.wf] at w0; exact w0⟩
theorem open_vts {v : Value} {d : DataW H} {ps : List MemPlace} {b0 : Nat} (hval : Value.okWide Tryz.prog w .any b0 22 v) (h : DataW.Trod enc Tryz.prog w base spare held 22 v d ps) (hb : Rows.uptoBulk d ≤ 1048576) :
  ∃ A n c l, v = .slice A n c ∧ Sl w w.heap.size encVt 2 A n l ∧ n ≤ 1048576 ∧ (∀ v ∈ l, wfI v.1) ∧ (A = none → n = 0 ∧ c = 0) := by
 obtain ⟨A, n, c, l, e, h1, h2, h3, h4⟩ := qgA (enc0 := encVt) (k := 2) Tryz.underlying22 (by kernel_rfl) (by decide) (fun (z : VtV) _ => wfI z.1) (fun _ _ x hx => qnA hx) (fun _ _ _ _ hz => hz) hval h
 refine ⟨A, n, c, l, e, h1, Nat.le_trans h3 hb, fun v hv => ?_, h2⟩
 obtain ⟨j, hj, rfl⟩ := List.mem_iff_getElem.1 hv
 have := h4 j (by rw [← h1.len]; exact hj)
 rwa [getElem!_pos l j hj] at this
end
def lqL : List VtV := [(1, 1), (1, 1), (2, 1), (2, 1), (3, 9)]
theorem lq1 : qbd lqL [0, 1, 2] = false := by decide
theorem lq2 : qbd lqL [0, 1, 2, 3] = true := by decide
theorem lq3 : qbd lqL [0, 1, 4] = true := by decide
theorem qgg {w : World} (l : List Int) (_hl : 0 < l.length) : Sl (w.alloc (.cells (l.map (Value.int .i64)).toArray 3)) (w.alloc (.cells (l.map (Value.int .i64)).toArray 3)).heap.size encN 1 (some ⟨w.heap.size, 0, none⟩) l.length l :=
 ⟨rfl, fun _ => ⟨w.heap.size, 0, rfl, by rw [sz1]; omega, fun j hj i u hu => by
  match i, hu with
  | 0, hu =>
   rw [qaf (qab w _), Nat.zero_add, Nat.mul_one, Nat.add_zero, List.getElem?_toArray, List.getElem?_map, List.getElem?_eq_getElem hj]
   rw [getElem!_pos l j hj] at hu
   exact hu⟩⟩
theorem qdT (w : World) (hE : Env w) : Calls Tryz.prog 16 #[] w (RetB w true) := by
 have HE := Lib.hid hE; clear hE
 have hb0 : Below w.heap.size w (w.alloc (.cells #[.int .i64 1, .int .i64 1, .int .i64 1, .int .i64 1, .int .i64 2, .int .i64 1, .int .i64 2, .int .i64 1, .int .i64 3, .int .i64 9] 82)) := (Below.refl _ w).alloc (Nat.le_refl _) _
 have hv0 : Sl (w.alloc (.cells #[.int .i64 1, .int .i64 1, .int .i64 1, .int .i64 1, .int .i64 2, .int .i64 1, .int .i64 2, .int .i64 1, .int .i64 3, .int .i64 9] 82)) (w.alloc (.cells #[.int .i64 1, .int .i64 1, .int .i64 1, .int .i64 1, .int .i64 2, .int .i64 1, .int .i64 2, .int .i64 1, .int .i64 3, .int .i64 9] 82)).heap.size encVt 2 (some ⟨w.heap.size, 0, none⟩) 5 lqL :=
  ⟨rfl, fun _ => ⟨w.heap.size, 0, rfl, by rw [sz1]; omega, fun j hj i u hu => by
   rw [qaf (qab w _), Nat.zero_add]
   match j, hj, i, hu with
   | 0, _, 0, hu => exact hu
   | 0, _, 1, hu => exact hu
   | 1, _, 0, hu => exact hu
   | 1, _, 1, hu => exact hu
   | 2, _, 0, hu => exact hu
   | 2, _, 1, hu => exact hu
   | 3, _, 0, hu => exact hu
   | 3, _, 1, hu => exact hu
   | 4, _, 0, hu => exact hu
   | 4, _, 1, hu => exact hu⟩⟩
 have HV := Lib.hid hv0; have HB := Lib.hid hb0
 have HG := Lib.hid (show ∀ v ∈ lqL, wfI v.1 from by
  intro v hv
  simp only [lqL, List.mem_cons, List.not_mem_nil, or_false] at hv
  rcases hv with rfl | rfl | rfl | rfl | rfl <;> (unfold wfI; decide))
 clear hv0 hb0
 go_enter Tryz.func16, Tryz.ntmps16
 go_upto_region 2 with fail
 generalize w.alloc (.cells #[.int .i64 1, .int .i64 1, .int .i64 1, .int .i64 1, .int .i64 2, .int .i64 1, .int .i64 2, .int .i64 1, .int .i64 3, .int .i64 9] 82) = W at *
 have hb1 : Below W.heap.size W (W.alloc (.cells #[.int .i64 0, .int .i64 1, .int .i64 2] 3)) := (Below.refl _ W).alloc (Nat.le_refl _) _
 have HC1 := Lib.hid (qdm (some ⟨w.heap.size, 0, none⟩) 5 5 lqL (some ⟨W.heap.size, 0, none⟩) 3 3 [0, 1, 2] (W.alloc (.cells #[.int .i64 0, .int .i64 1, .int .i64 2] 3)) (HV.out.belowMore hb1 hb1.size) HG.out (qgg [0, 1, 2] (by decide)) (by decide))
 rw [lq1] at HC1
 have HB1 := Lib.hid hb1; clear hb1
 go_wp2_with fail
 refine HC1.out.mono ?_
 rintro e w2 ⟨rfl, hb2⟩
 have HB2 := Lib.hid (HB1.out.trans (hb2.mono HB1.out.size)); clear hb2 HC1 HB1
 have hb1 : Below w2.heap.size w2 (w2.alloc (.cells #[.int .i64 0, .int .i64 1, .int .i64 2, .int .i64 3] 3)) := (Below.refl _ w2).alloc (Nat.le_refl _) _
 have HC1 := Lib.hid (qdm (some ⟨w.heap.size, 0, none⟩) 5 5 lqL (some ⟨w2.heap.size, 0, none⟩) 4 4 [0, 1, 2, 3] (w2.alloc (.cells #[.int .i64 0, .int .i64 1, .int .i64 2, .int .i64 3] 3)) ((HV.out.belowMore HB2.out HB2.out.size).belowMore hb1 hb1.size) HG.out (qgg [0, 1, 2, 3] (by decide)) (by decide))
 rw [lq2] at HC1
 have HB1 := Lib.hid (HB2.out.trans (hb1.mono HB2.out.size)); clear hb1
 go_wp2_with fail
 refine HC1.out.mono ?_
 rintro e w3 ⟨rfl, hb3⟩
 have HB3 := Lib.hid (HB1.out.trans (hb3.mono HB1.out.size)); clear hb3 HC1 HB1
 have hb1 : Below w3.heap.size w3 (w3.alloc (.cells #[.int .i64 0, .int .i64 1, .int .i64 4] 3)) := (Below.refl _ w3).alloc (Nat.le_refl _) _
 have HC1 := Lib.hid (qdm (some ⟨w.heap.size, 0, none⟩) 5 5 lqL (some ⟨w3.heap.size, 0, none⟩) 3 3 [0, 1, 4] (w3.alloc (.cells #[.int .i64 0, .int .i64 1, .int .i64 4] 3)) ((HV.out.belowMore HB3.out HB3.out.size).belowMore hb1 hb1.size) HG.out (qgg [0, 1, 4] (by decide)) (by decide))
 rw [lq3] at HC1
 have HB1 := Lib.hid (HB3.out.trans (hb1.mono HB3.out.size)); clear hb1
 go_wp2_with fail
 refine HC1.out.mono ?_
 rintro e w4 ⟨rfl, hb4⟩
 have HB4 := Lib.hid (HB.out.trans ((HB1.out.trans (hb4.mono HB1.out.size)).mono HB.out.size)); clear hb4 HC1 HB1
 have HLV := Lib.hid (qkd w4 (HE.out.below (Nat.le_refl _) HB4.out))
 go_wp2_with fail
 refine HLV.out.mono ?_
 rintro e w5 ⟨rfl, hb5⟩
 have HB5 := Lib.hid (HB4.out.trans (hb5.mono HB4.out.size)); clear hb5 HLV
 go_wp2_with fail
 go_ret
 exact RetB.mk HB5.out rfl
end Go.Proofs.YtbpmmmnphpkdjaaGreatDoor

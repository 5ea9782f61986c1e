/- A queue whose voters have one group and one weight, above 0, is as one without weights: all it answers is the same. Condition: what is so of every queue. slices.Clone at more kinds of elements. Condition: at most 2^20 elements. The walk of queue.Weighted. Condition: the voters' groups are int64; no more than 2^20. -/
import Derived.Test.YtbpmmmnphpkdjaaGreatDoorZOrdT
import Derived.Test.YtbpmmmnphpkdjaaGreatDoorZCloR
import Derived.Test.YtbpmmmnphpkdjaaGreatDoorZQuoM
import Derived.Deep.RegionWith
namespace Go.Proofs.YtbpmmmnphpkdjaaGreatDoor
open Go.RowKit Go.MapKept Go.Maps
/-- the same queue, its voters of group 5 and this weight -/
def wtd (wt : Int) (st : QuT) : QuT := { st with vs := List.replicate st.acked.length (5, wt) }
theorem wtd_ready {st : QuT} {wt : Int} (h1 : 1 ≤ wt) (h2 : wt ≤ 4294967296) (I : QuInv st) (V : EqVs st) : rdN (wtd wt st) = rdN st := by
  show readyN (zxs st.L) (chosenZ (List.replicate st.acked.length (5, wt)) st.acked st.last) = readyN (zxs st.L) (chosenZ st.vs st.acked st.last)
  rw [show st.vs = List.replicate st.acked.length (0, 1) from V, chosen_equal st.acked 5 wt 0 1 st.last I.a9 (by omega) h2 (by omega) (by omega)]
theorem wtd_push (st : QuT) (wt : Int) (p : PrT) : pushE (wtd wt st) p = pushE st p ∧ pushS (wtd wt st) p = wtd wt (pushS st p) := by
  have e : pushE (wtd wt st) p = pushE st p := rfl
  refine ⟨e, ?_⟩
  unfold pushS
  rw [e]
  by_cases h : pushE st p = 0
  · rw [if_pos h, if_pos h]; rfl
  · rw [if_neg h, if_neg h]
theorem wtd_ack (st : QuT) (wt v z : Int) : ackC (wtd wt st) v z = ackC st v z ∧ ackT (wtd wt st) v z = wtd wt (ackT st v z) := by
  refine ⟨rfl, ?_⟩
  unfold ackT
  by_cases h : 0 ≤ v ∧ v < st.acked.length ∧ 0 ≤ z ∧ z ≤ st.last
  · rw [if_pos h, if_pos (show 0 ≤ v ∧ v < (wtd wt st).acked.length ∧ 0 ≤ z ∧ z ≤ (wtd wt st).last from h)]
    show ({ st with vs := List.replicate st.acked.length (5, wt), acked := ackL st.acked v.toNat z } : QuT) = { st with vs := List.replicate (ackL st.acked v.toNat z).length (5, wt), acked := ackL st.acked v.toNat z }
    rw [ackL_len]
  · rw [if_neg h, if_neg (show ¬ (0 ≤ v ∧ v < (wtd wt st).acked.length ∧ 0 ≤ z ∧ z ≤ (wtd wt st).last) from h)]
theorem wtd_comm {st : QuT} {wt : Int} (h1 : 1 ≤ wt) (h2 : wt ≤ 4294967296) (I : QuInv st) (V : EqVs st) : commT (wtd wt st) = wtd wt (commT st) := by
  unfold commT
  rw [wtd_ready h1 h2 I V]
  by_cases h : 0 < rdN st
  · rw [if_pos h, if_pos h]; rfl
  · rw [if_neg h, if_neg h]
theorem wtd_clear (st : QuT) (wt : Int) : clearS (wtd wt st) = wtd wt (clearS st) := by
  show ({ st with L := [], last := st.committed, acked := st.acked.map _, vs := List.replicate st.acked.length (5, wt) } : QuT) = { st with L := [], last := st.committed, acked := st.acked.map _, vs := List.replicate (st.acked.map _).length (5, wt) }
  rw [List.length_map]; rfl
theorem wtd_inv {st : QuT} (wt : Int) (I : QuInv st) : QuInv (wtd wt st) :=
  ⟨I.bd, I.len, I.a9, I.rise, I.z1, I.cl, I.ak, I.sm, fun v hv => by
    have hv' : v ∈ List.replicate st.acked.length ((5, wt) : VtV) := hv
    rw [(List.mem_replicate.1 hv').2]; unfold wfI; omega⟩
/-- a new queue with these voters -/
def newW (bound : Int) (l : List VtV) : QuT := ⟨[], bound, l, List.replicate l.length 0, 0, 0⟩
theorem newW_wtd (bound : Int) (n : Nat) (wt : Int) : newW bound (List.replicate n (5, wt)) = wtd wt (newS bound n) := by
  unfold newW wtd newS
  simp
/-- such voters can be voters -/
theorem fit_equal (n : Nat) (wt : Int) (h0 : 0 < n) (h9 : n ≤ 9) (h1 : 1 ≤ wt) (h2 : wt ≤ 4294967296) : fitB (List.replicate n ((5, wt) : VtV)) = true := by
  unfold fitB
  obtain ⟨m, rfl⟩ : ∃ m, n = m + 1 := ⟨n - 1, by omega⟩
  simp
  omega
end Go.Proofs.YtbpmmmnphpkdjaaGreatDoor
namespace Go.Proofs.YtbpmmmnphpkdjaaGreatDoor
open Go.RowKit Go.MapKept Go.Maps
theorem elemBVt : ElemB encVt 25 82 2 16 (.agg #[.int .i64 0, .int .i64 0]) where
  under := Tryz.underlying25
  info := by kernel_rfl
  size := rfl
  len := fun _ => rfl
  pos := by decide
  one := fun x u hu => by
    simp [encVt] at hu
    rcases hu with rfl | rfl <;> rfl
  small := by decide
theorem eqNilVt (w : World) : (binOp .eql 25 (.slice none 0 0) (.slice none 0 0)).run Tryz.prog w = .ok (.bool true) w := by kernel_rfl
theorem eqSomeVt (a : Addr) (n c : Nat) (w : World) : (binOp .eql 25 (.slice (some a) n c) (.slice none 0 0)).run Tryz.prog w = .ok (.bool false) w := by kernel_rfl
set_option maxRecDepth 100000 in
theorem cloneNilVt (w : World) : Calls Tryz.prog 71 #[.slice none 0 0] w fun e w' => e = .returned (.slice none 0 0) ∧ w = w' := by
  have hq := eqNilVt
  go_enter Tryz.func71, Tryz.ntmps71
  go_wp2_with fail
  go_ret
  exact ⟨rfl, rfl⟩
set_option maxRecDepth 100000 in
theorem cloneVt_any (A : Option Addr) (n c : Nat) (l : List VtV) (w : World) (hz : Sl w w.heap.size encVt 2 A n l) (hA : A = none → n = 0 ∧ c = 0) (hn : n ≤ 4194304) :
    Calls Tryz.prog 71 #[.slice A n c] w (CloneP 82 encVt 2 n l w) := by
  cases A with
  | none =>
    obtain ⟨rfl, rfl⟩ := hA rfl
    have hl : l = [] := List.length_eq_zero_iff.1 hz.len
    subst hl
    refine (cloneNilVt w).mono ?_
    rintro e w' ⟨rfl, rfl⟩
    exact ⟨⟨none, 0, rfl, World.ownsRow_nil _ _ _ _⟩, Below.refl _ _⟩
  | some a =>
    have hb0 : Below w.heap.size w (w.alloc (.cells #[] 82)) := (Below.refl _ w).alloc (Nat.le_refl _) _
    have HS := Lib.hid (hz.belowMore hb0 hb0.size)
    have HB := Lib.hid hb0
    have HOW := Lib.hid (own_empty (T := 82) (k := 2) w)
    have hq := eqSomeVt a n c
    clear hz hA hb0
    go_enter Tryz.func71, Tryz.ntmps71
    go_wp2_with (at_builtin; refine wpList_appB elemBVt rfl _ _ rfl w.heap.size (some ⟨w.heap.size, 0, none⟩) 0 0 [] ?hx HOW.out (some a) n c l ?hy HS.out (fun e => by cases e) (by omega) HB.out.size ?hk)
    (try case hx => rfl)
    (try case hy => rfl)
    case hk =>
      intro A2 c2 w2 hv2 hb2 _
      have HV2 := Lib.hid hv2; have HB2 := Lib.hid (HB.out.trans hb2)
      clear hv2 hb2
      go_wp2_with fail
      go_ret
      exact ⟨⟨A2, c2, by simp, by simpa using HV2.out⟩, HB2.out⟩
end Go.Proofs.YtbpmmmnphpkdjaaGreatDoor
namespace Go.Proofs.YtbpmmmnphpkdjaaGreatDoor
open Go.RowKit Go.MapKept Go.Maps
/-- a queue whose parts are laid -/
theorem QuW.laid {w : World} {bq ga B E k cv : Nat} {Av : Option Addr} {l : List VtV} {bound : Int} (hl : l.length = k)
    (hbx : w.heap[bq]? = some (.cells #[.slice none 0 0, .int .i64 0, .int .i64 0, .int .i64 bound, .slice Av k cv, .slice (some ⟨ga, 0, none⟩) k k, .int .i64 0, .int .i64 0] 135 (0, 0)))
    (hvs : SlR w (fun b => B ≤ b ∧ b < E) encVt 2 (Av, k, cv) l) (hga : w.heap[ga]? = some (.cells (madeCells #[.int .i64 0] k) 2 (0, 0))) (h1 : ga < B ∨ E ≤ ga) (h2 : E ≤ bq) (h3 : ga ≠ bq) :
    QuW w bq ⟨bq, 0, 0, none, (Av, k, cv), ga, k, some ⟨ga, 0, none⟩⟩ (fun b => B ≤ b ∧ b < E) (newW bound l) := by
  have hbl := (Array.getElem?_eq_some_iff.1 hbx).1
  have hal := (Array.getElem?_eq_some_iff.1 hga).1
  have hrz : ∀ j, j < k → (List.replicate k (0 : Int))[j]! = 0 := fun j hj => by rw [getElem!_pos _ j (by simpa using hj)]; simp
  have hmi : ∀ j, j < k → (madeCells #[.int .i64 0] k)[j]? = some (.int .i64 0) := fun j hj => by have := madeI k j hj; rwa [Nat.mul_one] at this
  refine ⟨⟨?_, ?_, ?_, ?_, ?_, ?_, ?_, ?_, ?_⟩, ?_, ?_, ?_, ?_⟩
  · rw [hbx]; simp [newW, hl]
  · exact ⟨Nat.le_refl _, .inr ⟨rfl, rfl⟩, .inl ⟨rfl, rfl⟩, .inr rfl, fun j hj => absurd hj (by simp [newW])⟩
  · exact hvs
  · refine .inr ⟨rfl, fun j hj => ?_, fun j hj => ?_⟩
    · have hj' : j < k := by simpa [newW, hl] using hj
      exact ⟨by rw [Nat.zero_add, cellH hga, hmi j hj']; rfl, by simp [World.frozen?, hga]⟩
    · have hj' : j < k := by simpa [newW, hl] using hj
      rw [cellH hga, hmi j hj', show (newW bound l).acked = List.replicate k 0 from by simp [newW, hl], hrz j hj']
  · simp [newW, hl]
  · rintro b ⟨_, hb⟩; omega
  · rintro ⟨_, hb⟩; omega
  · intro h; exact absurd h (by simp)
  · intro _; exact ⟨h3, by rintro ⟨(_ : B ≤ ga), (_ : ga < E)⟩; omega, hal, fun h => absurd h (by simp)⟩
  · exact hbl
  · exact hal
  · rintro ⟨(_ : B ≤ ga), (_ : ga < E)⟩; omega
  · show 0 ≤ 8192; omega
set_option maxRecDepth 100000 in
set_option maxHeartbeats 4000000 in
theorem weighted_no (bound : Int) (A : Option Addr) (n c : Nat) (l : List VtV) (w : World) (hz : Sl w w.heap.size encVt 2 A n l) (hg : ∀ v ∈ l, wfI v.1) (h : fitB l = false ∨ bound < 0 ∨ 4096 < bound) :
    Calls Tryz.prog 27 #[.int .i64 bound, .slice A n c] w (NewNo w) := by
  have hgr := groups_any A n c l w hz hg
  clear hz hg
  go_enter Tryz.func27, Tryz.ntmps27
  go_wp2_with fail
  refine hgr.mono ?_
  rintro e w1 ⟨⟨mv, rfl, -⟩, hb1⟩
  have HB1 := Lib.hid hb1; clear hb1
  cases hf : fitB l with
  | false =>
    go_wp2_with fail
    go_ret2
    exact ⟨rfl, HB1.out⟩
  | true =>
    by_cases h1 : bound < 0
    · have b1 : decide (bound < 0) = true := decide_eq_true h1
      clear h h1
      go_wp2_with fail
      go_ret2
      exact ⟨rfl, HB1.out⟩
    · have b1 : decide (bound < 0) = false := decide_eq_false h1
      have b2 : decide (4096 < bound) = true := decide_eq_true (by rw [hf] at h; simp at h; omega)
      clear h h1
      go_wp2_with fail
      go_ret2
      exact ⟨rfl, HB1.out⟩
set_option maxRecDepth 100000 in
set_option maxHeartbeats 20000000 in
theorem weighted_ok (bound : Int) (A : Option Addr) (n c : Nat) (l : List VtV) (w : World) (hz : Sl w w.heap.size encVt 2 A n l) (hA : A = none → n = 0 ∧ c = 0) (hg : ∀ v ∈ l, wfI v.1) (hf : fitB l = true) (h1 : 0 ≤ bound) (h2 : bound ≤ 4096) :
    Calls Tryz.prog 27 #[.int .i64 bound, .slice A n c] w (NewOk (newW bound l) w) := by
  have hgr := groups_any A n c l w hz hg
  rw [show GrpP l w = GrpP l w from rfl] at hgr
  have hn9 : n ≤ 9 := by have := fit_len hf; rw [hz.len] at this; exact this
  have HLN := Lib.hid hz.len
  have b1 : decide (bound < 0) = false := decide_eq_false (by omega)
  have b2 : decide (4096 < bound) = false := decide_eq_false (by omega)
  have HZ := Lib.hid hz; have HA := Lib.hid hA; have HF := Lib.hid hf
  have HB := Lib.hid h2
  clear h1 h2 hg hz hA hf
  go_enter Tryz.func27, Tryz.ntmps27
  go_wp2_with fail
  refine hgr.mono ?_
  rintro e w1 ⟨⟨mv, rfl, -⟩, hb1⟩
  rw [HF.out]
  have HB1 := Lib.hid hb1; clear hb1
  have HCL := Lib.hid (fun W (hW : Below w.heap.size w W) => cloneVt_any A n c l W (HZ.out.belowMore hW hW.size) HA.out (by omega))
  have hmk := fun W => run_mk Tryz.underlying75 infoI64 (by decide) n (by omega) W
  rw [Nat.mul_one] at hmk
  have HW1 := Lib.hid (HB1.out.trans ((drew_self w1).mono HB1.out.size))
  have hbm : Below w1.heap.size w1 (w1.alloc (.cells (madeCells #[.int .i64 0] n) 2)) := (Below.refl _ w1).alloc (Nat.le_refl _) _
  have HW2 := Lib.hid (HB1.out.trans ((hbm.trans ((drew_self _).mono hbm.size)).mono HB1.out.size))
  go_wp2_with fail
  go_region_with (go_at_call 71; refine (HCL.out _ ?_).mono ?_; (first | exact HW1.out | exact HW2.out); rintro e w2 ⟨⟨A2, c2, rfl, hown⟩, hb2⟩)
  · have hs1 := HB1.out.size
    have hd : w1.drew.heap.size = w1.heap.size := rfl
    have hs2 := hb2.size
    have hvs : SlR w2 (fun b => w1.heap.size ≤ b ∧ b < w2.heap.size) encVt 2 (A2, n, c2) l := (own_slr hown (fun _ => rfl) HLN.out).more (fun b hb h => ⟨by rw [← hd]; exact h, hb⟩) (fun _ => by simp [encVt])
    have hm : Below w2.heap.size w2 (w2.alloc (.cells (madeCells #[.int .i64 0] n) 2)) := (Below.refl _ w2).alloc (Nat.le_refl _) _
    have hg1 := heap_s0 w2 (.cells (madeCells #[.int .i64 0] n) 2)
    have hz1 := sz1 w2 (.cells (madeCells #[.int .i64 0] n) 2)
    have hvs2 : SlR (w2.alloc (.cells (madeCells #[.int .i64 0] n) 2)) (fun b => w1.heap.size ≤ b ∧ b < w2.heap.size) encVt 2 (A2, n, c2) l := hvs.fr (Fr.of_below (own := []) hm) (fun b _ h => ⟨by simp, h⟩) (fun _ => by simp [encVt])
    go_wp2_with fail
    go_ret2
    generalize w2.alloc (.cells (madeCells #[.int .i64 0] n) 2) = W2 at *
    have hm2 : Below W2.heap.size W2 (W2.alloc (.cells #[.slice none 0 0, .int .i64 0, .int .i64 0, .int .i64 bound, .slice A2 n c2, .slice (some ⟨w2.heap.size, 0, none⟩) n n, .int .i64 0, .int .i64 0] 135)) := (Below.refl _ W2).alloc (Nat.le_refl _) _
    have hbx : (W2.alloc (.cells #[.slice none 0 0, .int .i64 0, .int .i64 0, .int .i64 bound, .slice A2 n c2, .slice (some ⟨w2.heap.size, 0, none⟩) n n, .int .i64 0, .int .i64 0] 135)).heap[w2.heap.size + 1]? = _ := heap_top' hz1
    have hga := (hm2.block w2.heap.size (by omega)).trans hg1
    have hvs3 := hvs2.fr (R' := fun b => w1.heap.size ≤ b ∧ b < w2.heap.size) (Fr.of_below (own := []) hm2) (fun b _ h => ⟨by simp, h⟩) (fun _ => by simp [encVt])
    have hq := QuW.laid (bound := bound) HLN.out hbx hvs3 hga (.inr (Nat.le_refl _)) (by omega) (by omega)
    exact ⟨⟨_, _, _, rfl, hq, by omega, by show _ ≤ w2.heap.size + 1; omega, by show _ ≤ w2.heap.size; omega, fun b h => Nat.le_trans hs1 h.1⟩, HW1.out.trans ((hb2.trans ((hm.trans (hm2.mono hm.size)).mono hb2.size)).mono HW1.out.size)⟩
  · have hs1 := HB1.out.size
    have hg0 := heap_s0 w1 (.cells (madeCells #[.int .i64 0] n) 2)
    have hz0 := sz1 w1 (.cells (madeCells #[.int .i64 0] n) 2)
    have hd : (w1.alloc (.cells (madeCells #[.int .i64 0] n) 2)).drew.heap.size = w1.heap.size + 1 := hz0
    have hs2 := hb2.size
    have hvs : SlR w2 (fun b => w1.heap.size + 1 ≤ b ∧ b < w2.heap.size) encVt 2 (A2, n, c2) l := (own_slr hown (fun _ => rfl) HLN.out).more (fun b hb h => ⟨by rw [← hd]; exact h, hb⟩) (fun _ => by simp [encVt])
    have hga0 := (hb2.block w1.heap.size (by omega)).trans hg0
    have hm2 : Below w2.heap.size w2 (w2.alloc (.cells #[.slice none 0 0, .int .i64 0, .int .i64 0, .int .i64 bound, .slice A2 n c2, .slice (some ⟨w1.heap.size, 0, none⟩) n n, .int .i64 0, .int .i64 0] 135)) := (Below.refl _ w2).alloc (Nat.le_refl _) _
    have hbx := heap_s0 w2 (.cells #[.slice none 0 0, .int .i64 0, .int .i64 0, .int .i64 bound, .slice A2 n c2, .slice (some ⟨w1.heap.size, 0, none⟩) n n, .int .i64 0, .int .i64 0] 135)
    have hga := (hm2.block w1.heap.size (by omega)).trans hga0
    have hvs3 := hvs.fr (R' := fun b => w1.heap.size + 1 ≤ b ∧ b < w2.heap.size) (Fr.of_below (own := []) hm2) (fun b _ h => ⟨by simp, h⟩) (fun _ => by simp [encVt])
    have hq := QuW.laid (bound := bound) HLN.out hbx hvs3 hga (.inl (by omega)) (Nat.le_refl _) (by omega)
    go_wp2_with fail
    go_ret2
    exact ⟨⟨_, _, _, rfl, hq, by omega, by show _ ≤ w2.heap.size; omega, by show _ ≤ w1.heap.size; omega, fun b h => by have := h.1; omega⟩, HW2.out.trans ((hb2.trans (hm2.mono hb2.size)).mono HW2.out.size)⟩
end Go.Proofs.YtbpmmmnphpkdjaaGreatDoor

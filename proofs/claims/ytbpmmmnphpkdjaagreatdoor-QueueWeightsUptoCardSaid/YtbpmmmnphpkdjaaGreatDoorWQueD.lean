/- A ring with one more at its end; a ring copied into a greater array. -/
import Derived.Test.YtbpmmmnphpkdjaaGreatDoorWQueB
import Derived.Laws.MakeOwn
import Derived.Test.YtbpmmmnphpkdjaaGreatDoorWRfG
import Derived.Test.YtbpmmmnphpkdjaaGreatDoorWRplI
namespace Go.Proofs.YtbpmmmnphpkdjaaGreatDoor
set_option linter.unusedSimpArgs false
set_option maxRecDepth 100000
set_option maxHeartbeats 20000000
open Go.RowKit Go.MapKept Go.Maps
theorem PrAt.more {w : World} {R R' : Nat → Prop} {h : PrH} {t : PrT} (H : PrAt w R h t) (hR : ∀ b, R b → R' b) : PrAt w R' h t := H.fr (Fr.refl [] w) (fun b _ hb => ⟨by simp, hR b hb⟩)
theorem RingAt.more {w : World} {A : Option Addr} {gr cap first : Nat} {R R' : Nat → Prop} {L : List PrT} (H : RingAt w A gr cap first R L) (hR : ∀ b, R b → R' b) : RingAt w A gr cap first R' L :=
 ⟨H.le, H.fst, H.at_, H.th, fun j hj => by obtain ⟨h, h1, h2⟩ := H.el j hj; exact ⟨h, h1, h2.more hR⟩⟩
theorem qlY {first cap i j : Nat} (hf : first < cap) (hi : i < cap) (hj : j < cap) (hn : i ≠ j) : (first + i) % cap ≠ (first + j) % cap := by
 intro e
 have m1 : (first + i) % cap = if first + i < cap then first + i else first + i - cap := by
  split
  ·exact Nat.mod_eq_of_lt (by assumption)
  ·rw [Nat.mod_eq_sub_mod (by omega), Nat.mod_eq_of_lt (by omega)]
 have m2 : (first + j) % cap = if first + j < cap then first + j else first + j - cap := by
  split
  ·exact Nat.mod_eq_of_lt (by assumption)
  ·rw [Nat.mod_eq_sub_mod (by omega), Nat.mod_eq_of_lt (by omega)]
 rw [m1, m2] at e
 split at e <;> split at e <;> omega
theorem qdx {α : Type} [Inhabited α] (l : List α) (x : α) (j : Nat) (h : j < l.length) : (l ++ [x])[j]! = l[j]! := by
 rw [getElem!_pos (l ++ [x]) j (by simp; omega), getElem!_pos l j h, List.getElem_append_left h]
theorem qdv {α : Type} [Inhabited α] (l : List α) (x : α) : (l ++ [x])[l.length]! = x := by
 rw [getElem!_pos (l ++ [x]) l.length (by simp)]; simp
/-- one more at the end of a ring with room -/
theorem RingAt.put {w : World} {A : Option Addr} {gr cap first : Nat} {R : Nat → Prop} {L : List PrT} (H : RingAt w A gr cap first R L) (hl : L.length < cap) (h : PrH) (p : PrT) (hp : PrAt w R h p) (hR : ¬ R gr) :
  RingAt (w.setCells gr (((first + L.length) % cap) * 45) (qah h)) A gr cap first R (L ++ [p]) := by
 have hf : first < cap := by rcases H.fst with h | h <;> omega
 have hth : w.there gr 0 (cap * 45) := by
  rcases H.th with h | h
  ·exact h
  ·omega
 have hfr := qaB w gr (((first + L.length) % cap) * 45) (qah h)
 have hk : ∀ b, b < w.heap.size → R b → b ∉ [gr] ∧ R b := fun b _ hb => ⟨by simp; exact fun e => hR (e ▸ hb), hb⟩
 refine ⟨by simp; omega, H.fst, H.at_, .inl (World.there_setCells hth _ _ _), fun j hj => ?_⟩
 by_cases hjl : j < L.length
 ·obtain ⟨g, hr, hg⟩ := H.el j hjl
  rw [qdx _ _ _ hjl]
  refine ⟨g, ?_, hg.fr hfr hk⟩
  refine World.rangeAt_setCells_apart hr _ _ _ (.inr ?_)
  rw [qbB, qbB]
  exact qeH (qlY hf (by omega) hl (by omega))
 ·have hj' : j < L.length + 1 := by simpa using hj
  obtain rfl : j = L.length := by omega
  rw [qdv]
  refine ⟨h, World.rangeAt_setCells_same _ _ _ _ ?_, hp.fr hfr hk⟩
  rw [qbB]
  intro i hi
  have hm : (first + L.length) % cap < cap := Nat.mod_lt _ (by omega)
  have h1 := Nat.mul_le_mul_right 45 (show (first + L.length) % cap + 1 ≤ cap by omega)
  have := hth (((first + L.length) % cap) * 45 + i) (by omega)
  rwa [Nat.zero_add] at this
/-- the headers of a ring -/
theorem RingAt.heads {w : World} {A : Option Addr} {gr cap first : Nat} {R : Nat → Prop} {L : List PrT} (H : RingAt w A gr cap first R L) :
  ∃ hs : Nat → PrH, ∀ j, j < L.length → w.rangeAt gr (((first + j) % cap) * 45) (qah (hs j)) ∧ PrAt w R (hs j) L[j]! := by
 have h : ∀ j, ∃ h : PrH, j < L.length → w.rangeAt gr (((first + j) % cap) * 45) (qah h) ∧ PrAt w R h L[j]! := fun j => by
  by_cases hj : j < L.length
  ·obtain ⟨h, h1⟩ := H.el j hj; exact ⟨h, fun _ => h1⟩
  ·exact ⟨default, fun h => absurd h hj⟩
 exact ⟨fun j => Classical.choose (h j), fun j hj => Classical.choose_spec (h j) hj⟩
/-- a queue in a world in which nothing of it has turned -/
theorem QuAt.fr {w w' : World} {bq : Nat} {x : QuX} {R : Nat → Prop} {st : QuT} {own : List Nat} (h : QuAt w bq x R st) (hf : Fr own w w') (hq : bq ∉ own) (hgr : 0 < x.cap → x.gr ∉ own) (hga : x.aA ≠ none → x.ga ∉ own) (hR : ∀ b, R b → b ∉ own) : QuAt w' bq x R st := by
 refine ⟨(hf.block bq (Array.getElem?_eq_some_iff.1 h.box).1 hq).trans h.box, h.ring.fr hf hgr hR, h.vs.fr hf (fun b _ hb => ⟨hR b hb, hb⟩) (fun _ => by simp [encVt]), ?_, h.acl, fun b hb => Nat.lt_of_lt_of_le (h.lt b hb) hf.size, h.nq, fun hc => ⟨(h.ngr hc).1, (h.ngr hc).2.1, Nat.lt_of_lt_of_le (h.ngr hc).2.2 hf.size⟩, fun hn => ⟨(h.nga hn).1, (h.nga hn).2.1, Nat.lt_of_lt_of_le (h.nga hn).2.2.1 hf.size, (h.nga hn).2.2.2⟩⟩
 refine h.ack.imp id fun k => ?_
 have hn : x.aA ≠ none := by rw [k.1]; simp
 exact ⟨k.1, qbp k.2.1 hf (hga hn), fun j hj => (hf.cell (p := ⟨x.ga, j, none⟩) (h.nga hn).2.2.1 (hga hn)).trans (k.2.2 j hj)⟩
theorem QuAt.below {w w' : World} {bq : Nat} {x : QuX} {R : Nat → Prop} {st : QuT} (h : QuAt w bq x R st) (hb : Below w.heap.size w w') : QuAt w' bq x R st := h.fr (Fr.of_below (own := []) hb) (by simp) (by simp) (by simp) (by simp)
/-- a queue behind the store of one more -/
theorem QuAt.pushed {wc V : World} {bq : Nat} {x : QuX} {R : Nat → Prop} {st : QuT} {h : PrH} {p : PrT} (H : QuAt wc bq x R st) (hF : Fr [bq] wc V)
  (hb : V.heap[bq]? = some (.cells #[.slice x.A x.cap x.cap, .int .i64 x.first, .int .i64 ((st.L.length : Int) + 1), .int .i64 st.bound, slV x.vh, .slice x.aA st.acked.length x.ac, .int .i64 st.last, .int .i64 st.committed] 135 (0, 0)))
  (hroom : st.L.length < x.cap) (hp : PrAt wc R h p) : QuAt (V.setCells x.gr (((x.first + st.L.length) % x.cap) * 45) (qah h)) bq x R { st with L := st.L ++ [p] } := by
 have hng := H.ngr (by omega)
 have hlt := (Array.getElem?_eq_some_iff.1 H.box).1
 have hRb : ∀ b, R b → b ∉ [bq] := fun b hb => by simp; exact fun e => H.nq (e ▸ hb)
 have hF2 := qaB V x.gr (((x.first + st.L.length) % x.cap) * 45) (qah h)
 have hRb2 : ∀ b, R b → b ∉ [x.gr] := fun b hb => by simp; exact fun e => hng.2.1 (e ▸ hb)
 have hring := (H.ring.fr hF (fun _ => by simpa using hng.1) hRb).put hroom h p (hp.fr hF (fun b _ hb => ⟨hRb b hb, hb⟩)) hng.2.1
 have hF3 : Fr [bq, x.gr] wc (V.setCells x.gr (((x.first + st.L.length) % x.cap) * 45) (qah h)) := (Fr.trans ⟨hF.os, hF.tape, hF.output, hF.size, fun g hg hn => hF.block g hg (by simp at hn ⊢; exact hn.1)⟩ hF2 (fun g hg => .inl (by simp at hg; simp [hg])))
 refine ⟨?_, hring, H.vs.fr hF3 (fun b _ hb => ⟨by have h1 := hRb b hb; have h2 := hRb2 b hb; simp at h1 h2; simp [h1, h2], hb⟩) (fun _ => by simp [encVt]), ?_, H.acl, fun b hb => Nat.lt_of_lt_of_le (H.lt b hb) hF3.size, H.nq, fun hc => ⟨hng.1, hng.2.1, Nat.lt_of_lt_of_le hng.2.2 hF3.size⟩, fun hn => ⟨(H.nga hn).1, (H.nga hn).2.1, Nat.lt_of_lt_of_le (H.nga hn).2.2.1 hF3.size, (H.nga hn).2.2.2⟩⟩
 ·rw [hF2.block bq (Nat.lt_of_lt_of_le hlt hF.size) (by simpa using fun e => hng.1 e.symm), hb]
  simp
 ·refine H.ack.imp id fun k => ?_
  have hn : x.aA ≠ none := by rw [k.1]; simp
  have hga := H.nga hn
  have hg2 := hga.2.2.2 (by omega)
  have hno : x.ga ∉ [bq, x.gr] := by simp [hga.1, hg2]
  exact ⟨k.1, qbp k.2.1 hF3 hno, fun j hj => (hF3.cell (p := ⟨x.ga, j, none⟩) hga.2.2.1 hno).trans (k.2.2 j hj)⟩
def QuX.ring (x : QuX) (A : Option Addr) (gr cap first : Nat) : QuX := { x with A := A, gr := gr, cap := cap, first := first }
/-- a queue whose ring was copied into another array -/
theorem QuAt.moved {wr : World} {bq : Nat} {x : QuX} {R : Nat → Prop} {st : QuT} (H : QuAt wr bq x R st) {g m : Nat} {hs : Nat → PrH} (hrow : ∀ j, j < st.L.length → wr.rangeAt g (j * 45) (qah (hs j)) ∧ PrAt wr R (hs j) st.L[j]!) (hth : wr.there g 0 (m * 45)) (hm : st.L.length < m)
  (hg : g ≠ bq ∧ ¬ R g ∧ g < wr.heap.size) (hga : x.aA ≠ none → x.ga ≠ g) : QuAt ((wr.setCell ⟨bq, 0, none⟩ (.slice (some ⟨g, 0, none⟩) m m)).setCell ⟨bq, 1, none⟩ (.int .i64 0)) bq (x.ring (some ⟨g, 0, none⟩) g m 0) R st := by
 have hF : Fr [bq] wr ((wr.setCell ⟨bq, 0, none⟩ (.slice (some ⟨g, 0, none⟩) m m)).setCell ⟨bq, 1, none⟩ (.int .i64 0)) := ((Fr.refl _ wr).set (by simp) 0 _).set (by simp) 1 _
 have hRb : ∀ b, R b → b ∉ [bq] := fun b hb => by simp; exact fun e => H.nq (e ▸ hb)
 refine ⟨?_, ⟨by show st.L.length ≤ m; omega, .inl (by show 0 < m; omega), .inr ⟨by show 0 < m; omega, rfl⟩, .inl (qbp hth hF (fun e => hg.1 (List.mem_singleton.1 e))), fun j hj => ?_⟩, H.vs.fr hF (fun b _ hb => ⟨hRb b hb, hb⟩) (fun _ => by simp [encVt]), ?_, H.acl, fun b hb => Nat.lt_of_lt_of_le (H.lt b hb) hF.size, H.nq, fun _ => ⟨hg.1, hg.2.1, Nat.lt_of_lt_of_le hg.2.2 hF.size⟩, fun hn => ⟨(H.nga hn).1, (H.nga hn).2.1, Nat.lt_of_lt_of_le (H.nga hn).2.2.1 hF.size, fun _ => hga hn⟩⟩
 ·exact (qaZ (qaZ H.box _) _).trans (by simp [QuX.ring])
 ·obtain ⟨h1, h2⟩ := hrow j hj
  refine ⟨hs j, ?_, h2.fr hF (fun b _ hb => ⟨hRb b hb, hb⟩)⟩
  show World.rangeAt _ g (((0 + j) % m) * 45) _
  rw [Nat.zero_add, Nat.mod_eq_of_lt (by omega)]
  intro i u hu
  have h3 := h1 i u hu
  rw [hF.cell (p := ⟨g, _ + i, none⟩) (World.block_lt_of_cell? _ _ h3) (by simpa using hg.1)]
  exact h3
 ·refine H.ack.imp id fun k => ?_
  have hn : x.aA ≠ none := by rw [k.1]; simp
  have hno : x.ga ∉ [bq] := by simp [(H.nga hn).1]
  exact ⟨k.1, qbp k.2.1 hF hno, fun j hj => (hF.cell (p := ⟨x.ga, j, none⟩) (H.nga hn).2.2.1 hno).trans (k.2.2 j hj)⟩
/-- what a call leaves: the queue's own three blocks alone are written; what it holds besides is new -/
structure QuNx (bq : Nat) (x : QuX) (R : Nat → Prop) (st' : QuT) (w w' : World) (x' : QuX) (R' : Nat → Prop) : Prop where
 at_ : QuAt w' bq x' R' st'
 ga : x'.ga = x.ga ∧ x'.aA = x.aA
 gr : x'.gr = x.gr ∨ w.heap.size ≤ x'.gr
 new : ∀ b, R' b → R b ∨ w.heap.size ≤ b
 old : ∀ b, R b → R' b
def QuPo (bq : Nat) (x : QuX) (R : Nat → Prop) (st' : QuT) (w w' : World) : Prop := (∃ x' R', QuNx bq x R st' w w' x' R' ∧ x'.cap ≤ 8192) ∧ Fr [bq, x.gr, x.ga] w w'
open Go.RowKit Go.MapKept Go.Maps
def PutP (bq : Nat) (x : QuX) (R : Nat → Prop) (st' : QuT) (w : World) (e : Ending) (w' : World) : Prop :=
 e = .returned (.tuple #[]) ∧ (∃ x', QuAt w' bq x' R st' ∧ x'.ga = x.ga ∧ x'.aA = x.aA ∧ (x'.gr = x.gr ∨ w.heap.size ≤ x'.gr) ∧ x'.cap ≤ 8192) ∧ Fr [bq, x.gr] w w'
/-- ahead of the store: there is room -/
structure PtS (bq : Nat) (x : QuX) (R : Nat → Prop) (st : QuT) (h : PrH) (p : PrT) (w wx : World) (A : Option Addr) (gr cap first : Nat) : Prop where
 q : QuAt wx bq (x.ring A gr cap first) R st
 room : st.L.length < cap
 c8 : cap ≤ 8192
 grOk : gr = x.gr ∨ w.heap.size ≤ gr
 ne : gr ≠ w.heap.size
 fr : Fr [bq, x.gr] w wx
 bx : wx.heap[w.heap.size]? = some (.cells (qah h).toArray 63 (0, 0))
 p : PrAt wx R h p
theorem qnn : (Tryz.prog.info? 63).map (fun i => (i.zero.isSome, i.size, decide (i.bytes ≤ 4096))) = some (true, 45, true) := by kernel_rfl
theorem qnO (m : Nat) (hm : m ≤ 16384) : ∃ cs : List Value, cs.length = m * 45 ∧ ∀ W : World, (Instr.makeSlice 79 (.int .i64 ↑m) (.int .i64 ↑m)).run Tryz.prog W = .ok (.slice (some ⟨W.heap.size, 0, none⟩) m m) (W.alloc (.cells cs.toArray 63)) := by
 have h := qnn
 cases hi : Tryz.prog.info? 63 with
 | none => rw [hi] at h; cases h
 | some i =>
  rw [hi] at h
  simp only [Option.map_some, Option.some.injEq, Prod.mk.injEq, decide_eq_true_eq] at h
  obtain ⟨h1, h2, h3⟩ := h
  obtain ⟨z, hz⟩ := Option.isSome_iff_exists.1 h1
  refine ⟨(madeCells z.cells (m * 45)).toList, by simpa using size_madeCells _ _, fun W => ?_⟩
  have hb : (i.bytes : Int) * (m : Int) ≤ 281474976710656 := by
   have h4 : i.bytes * m ≤ 4096 * 16384 := Nat.mul_le_mul h3 hm
   have h5 : (i.bytes : Int) * (m : Int) = ((i.bytes * m : Nat) : Int) := by simp
   rw [h5]; omega
  have := run_makeSlice W 79 63 i z Tryz.underlying79 hi hz .i64 .i64 (m : Int) (m : Int) (by omega) (Int.le_refl _) (by rw [Int.toNat_natCast, h2]; omega) hb (by omega)
  rw [Int.toNat_natCast, h2] at this
  rw [this, Array.toArray_toList]
/-- the first k are copied -/
structure GrS (g m : Nat) (hs : Nat → PrH) (w3 : World) (k : Nat) (wr : World) : Prop where
 fr : Fr [g] w3 wr
 th : wr.there g 0 (m * 45)
 row : ∀ j, j < k → wr.rangeAt g (j * 45) (qah (hs j))
theorem PtS.drewN {bq : Nat} {x : QuX} {R : Nat → Prop} {st : QuT} {h : PrH} {p : PrT} {w wx : World} {A : Option Addr} {gr cap first : Nat} (H : PtS bq x R st h p w wx A gr cap first) (q : Nat) : PtS bq x R st h p w (wx.drewN q) A gr cap first :=
 ⟨H.q.fr (Fr.drewN [] wx q) (by simp) (by simp) (by simp) (by simp), H.room, H.c8, H.grOk, H.ne, H.fr.trans (Fr.drewN [] wx q) (by simp), H.bx, H.p.fr (Fr.drewN [] wx q) (fun b _ hb => ⟨by simp, hb⟩)⟩

theorem qnW (bq : Nat) (x : QuX) (R : Nat → Prop) (st : QuT) (h : PrH) (p : PrT) (w : World) (hq : QuAt w bq x R st) (hp : PrAt w R h p) (hlen : st.L.length ≤ 4096) (hcap : x.cap ≤ 8192) :
  Calls Tryz.prog 64 #[.pointer (some ⟨bq, 0, none⟩), prV h] w (PutP bq x R { st with L := st.L ++ [p] } w) := by
 have hle := hq.ring.le
 have hltq : bq < w.heap.size := (Array.getElem?_eq_some_iff.1 hq.box).1
 have hb1 : Below w.heap.size w (w.alloc (.cells (qah h).toArray 63)) := (Below.refl _ w).alloc (Nat.le_refl _) _
 have hq1 := hq.below hb1
 have hp1 := hp.fr (R' := R) (Fr.of_below (own := []) hb1) (fun b _ hb => ⟨by simp, hb⟩)
 have hg1 : (w.alloc (.cells (qah h).toArray 63)).heap[w.heap.size]? = some (.cells (qah h).toArray 63 (0, 0)) := qab w _
 have hs1 : (w.alloc (.cells (qah h).toArray 63)).heap.size = w.heap.size + 1 := sz1 w _
 have hbox := hq1.box
 have c0 : (w.alloc (.cells (qah h).toArray 63)).cell? ⟨bq, 0, none⟩ = some (.slice x.A x.cap x.cap) := by rw [qaf hbox]; rfl
 have c2 : (w.alloc (.cells (qah h).toArray 63)).cell? ⟨bq, 2, none⟩ = some (.int .i64 st.L.length) := by rw [qaf hbox]; rfl
 have HQ := Lib.hid hq; have HQ1 := Lib.hid hq1; have HP1 := Lib.hid hp1; have HG1 := Lib.hid hg1; have HS1 := Lib.hid hs1; have HB1 := Lib.hid hb1; have HBX := Lib.hid hbox
 have HLQ := Lib.hid hltq
 clear hq hq1 hp hp1 hg1 hs1 hb1 hbox hltq
 go_enter Tryz.func64, Tryz.ntmps64
 go_wp2_with fail
 change Code.wp _ _ _ _ (w.alloc (.cells (qah h).toArray 63))
 generalize hN : st.L.length = n at *
 have HN := Lib.hid hN; clear hN
 generalize w.alloc (.cells (qah h).toArray 63) = W1 at *
 go_quiet (fail)
 have HQ2 := Lib.hid (HQ1.out.fr (Fr.drewN [] W1 nq) (by simp) (by simp) (by simp) (by simp))
 have HP2 := Lib.hid (HP1.out.fr (R' := R) (Fr.drewN [] W1 nq) (fun b _ hb => ⟨by simp, hb⟩))
 have HG2 := Lib.hid (show (W1.drewN nq).heap[w.heap.size]? = some (.cells (qah h).toArray 63 (0, 0)) from HG1.out)
 have HS2 := Lib.hid (show (W1.drewN nq).heap.size = w.heap.size + 1 from HS1.out)
 have HB2 := Lib.hid (qac HB1.out nq)
 have c0' : (W1.drewN nq).cell? ⟨bq, 0, none⟩ = some (.slice x.A x.cap x.cap) := c0
 have c2' : (W1.drewN nq).cell? ⟨bq, 2, none⟩ = some (.int .i64 n) := c2
 clear HQ1 HP1 HG1 HS1 HB1 HBX c0 c2
 go_upto_if 15 with fail
 generalize W1.drewN nq = W2 at *
 go_cut [3] from 4 to 45 (fun v wx => v = .pointer (some ⟨w.heap.size, 0, none⟩) ∧ ∃ A gr cap first, PtS bq x R st h p w wx A gr cap first)
 case first =>
  by_cases hn : n = x.cap
  ·have he : ((n : Int) == (x.cap : Int)) = true := by rw [hn]; exact beq_self_eq_true _
   subst hn
   rw [show ((x.cap : Int) == (x.cap : Int)) = true from beq_self_eq_true _]
   clear he
   have HM := Lib.hid (show x.cap < max 4 (2 * x.cap) ∧ max 4 (2 * x.cap) ≤ 8192 by omega)
   have hmx : max (4 : Int) (2 * (x.cap : Int)) = ((max 4 (2 * x.cap) : Nat) : Int) := by omega
   generalize max 4 (2 * x.cap) = m at *
   have hmul : IntKind.i64.wrap (2 * (x.cap : Int)) = 2 * (x.cap : Int) := by rw [IntKind.wrap_i64]; omega
   obtain ⟨zs, hzl, hmk⟩ := qnO m (by have := HM.out; omega)
   have hmkW := hmk W2
   obtain ⟨hs, hhs⟩ := HQ2.out.ring.heads
   have HH := Lib.hid hhs; have HZ := Lib.hid hzl
   clear hmk hhs hzl
   have c2a : (W2.alloc (.cells zs.toArray 63)).cell? ⟨bq, 2, none⟩ = some (.int .i64 x.cap) := qaC c2' ((Below.refl _ W2).alloc (Nat.le_refl _) _)
   go_wp2_with fail
   change Code.wp _ _ _ _ (W2.alloc (.cells zs.toArray 63))
   have HW3 := Lib.hid (show GrS W2.heap.size m hs (W2.alloc (.cells zs.toArray 63)) 0 (W2.alloc (.cells zs.toArray 63)) from ⟨Fr.refl _ _, qbT (qab W2 _) 0 (m * 45) (by simp [HZ.out]), fun j hj => absurd hj (by omega)⟩)
   have HB3 := Lib.hid (HB2.out.trans (((Below.refl _ W2).alloc (Nat.le_refl _) (.cells zs.toArray 63)).mono (by rw [HS2.out]; omega)))
   have HB23 := Lib.hid ((Below.refl _ W2).alloc (Nat.le_refl _) (.cells zs.toArray 63))
   clear hmkW hmul hmx c2a
   generalize W2.alloc (.cells zs.toArray 63) = W3 at *
   have hlq3 : bq < W2.heap.size := by have := HLQ.out; have := HS2.out; omega
   have HLQ3 := Lib.hid hlq3; clear hlq3
   go_loopw [5, 27] (fun _ i wr => ∃ k : Nat, i = .int .i64 ↑k ∧ k ≤ x.cap ∧ GrS W2.heap.size m hs W3 k wr) (fun _ i _ => x.cap - (intOf i).toNat)
   case atStart => exact ⟨0, rfl, Nat.zero_le _, HW3.out⟩
   case round =>
    obtain ⟨k, rfl, hk, hG⟩ := hrel
    have HG := Lib.hid hG; clear hG
    have HQR := Lib.hid ((HQ2.out.below HB23.out).fr HG.out.fr (by have := HLQ3.out; simp; omega) (fun h0 => by have := (HQ2.out.ngr h0).2.2; simp; omega) (fun h0 => by have := (HQ2.out.nga h0).2.2.1; simp; omega) (fun b hb => by have := HQ2.out.lt b hb; simp; omega))
    have hbr := HQR.out.box
    by_cases hlt : k < x.cap
    ·have hf1 : x.first < x.cap := by have h0 := HQ.out.ring.fst; omega
     have hA1 : x.A = some ⟨x.gr, 0, none⟩ := by
      rcases HQ.out.ring.at_ with h | h
      ·omega
      ·exact h.2
     have hgl := (HQ2.out.ngr (by omega)).2.2
     have hrk := (HH.out k (by rw [HN.out]; exact hlt)).1
     have hrk2 : wr.drew.rangeAt x.gr (((x.first + k) % x.cap) * 45) (qah (hs k)) := by
      have h1 := qbf hrk HB23.out
      intro i u hu
      show wr.cell? _ = _
      have h2 := h1 i u hu
      rw [HG.out.fr.cell (p := ⟨x.gr, _ + i, none⟩) (World.block_lt_of_cell? _ _ h2) (by simp; omega)]
      exact h2
     have HCA := Lib.hid (qdu bq x.gr x.cap x.first k wr (by rw [qaf hbr, hA1]; rfl) (by rw [qaf hbr]; rfl) hf1 hlt (by omega))
     have hkm : k < m := by have := HM.out; omega
     have hth : wr.drew.there W2.heap.size (k * 45) (qah (hs k)).toArray.size := by
      intro j hj
      have hj' : j < 45 := by simpa [qbB] using hj
      have h3 := Nat.mul_le_mul_right 45 (show k + 1 ≤ m by omega)
      have := HG.out.th (k * 45 + j) (by omega)
      rwa [Nat.zero_add] at this
     have HTH := Lib.hid hth
     clear hrk hf1 hA1 hgl hth hbr
     generalize hmE : (x.first + k) % x.cap = q at *
     clear hmE
     go_wp2_with fail
     refine HCA.out.mono ?_
     rintro e w1 ⟨rfl, rfl⟩
     have HGN := Lib.hid (show GrS W2.heap.size m hs W3 (k + 1) (wr.drew.setCells W2.heap.size (k * 45) (qah (hs k))) from ⟨HG.out.fr.trans ((Fr.of_below (own := [W2.heap.size]) (qaj wr)).trans (qaB _ _ _ _) (by simp)) (by simp), World.there_setCells (show wr.drew.there _ _ _ from HG.out.th) _ _ _, fun j hj => by
      by_cases hjk : j = k
      ·subst hjk
       exact World.rangeAt_setCells_same _ _ _ _ (by have := HTH.out; simpa using this)
      ·exact World.rangeAt_setCells_apart (show wr.drew.rangeAt _ _ _ from HG.out.row j (by omega)) _ _ _ (.inr (by rw [qbB, qbB]; exact qeH hjk))⟩)
     go_wp2_with (first
      | (apply qau 63; exact rfl; exact rfl; exact rfl; assumption; exact qbq; exact rfl; exact qaI)
      | (apply qaW 63; exact rfl; exact rfl; exact rfl; exact rfl; exact HTH.out; exact qaI; exact qbo _)
      | fail)
     go_roundw
     case rel => exact ⟨k + 1, by go_num, by omega, HGN.out⟩
     case measure => simp [intOf]; omega
    ·obtain rfl : k = x.cap := by omega
     have c0r : wr.cell? ⟨bq, 0, none⟩ = some (.slice x.A x.cap x.cap) := by rw [qaf hbr]; rfl
     have c1r : wr.cell? ⟨bq, 1, none⟩ = some (.int .i64 x.first) := by rw [qaf hbr]; rfl
     have f0r : wr.frozen? ⟨bq, 0, none⟩ = false := by simp [World.frozen?, hbr]
     have f1r : wr.frozen? ⟨bq, 1, none⟩ = false := by simp [World.frozen?, hbr]
     clear hbr hlt hk
     go_wp2_with fail
     go_meet
     have hQm := HQR.out.moved (g := W2.heap.size) (m := m) (hs := hs) (fun j hj => ⟨HG.out.row j (by have := HN.out; omega), (((HH.out j hj).2.fr (R' := R) (Fr.of_below (own := []) HB23.out) (fun b _ hb => ⟨by simp, hb⟩)).fr (R' := R) HG.out.fr (fun b _ hb => ⟨by have := HQ2.out.lt b hb; simp; omega, hb⟩))⟩) HG.out.th (by have := HN.out; have := HM.out; omega) ⟨by have := HLQ3.out; omega, fun hb => by have := HQ2.out.lt _ hb; omega, Nat.lt_of_lt_of_le (by have := HB23.out.size; have := HW3.out.th 0 (by have := HM.out; omega); exact World.block_lt_of_cell? W3 _ (Option.isSome_iff_exists.1 this.1).choose_spec) HG.out.fr.size⟩ (fun hn => by have := (HQ2.out.nga hn).2.2.1; omega)
     have hFw : Fr [bq, x.gr] w wr := (Fr.of_below (own := [bq, x.gr]) HB3.out).trans HG.out.fr (fun g hg => .inr (by simp at hg; have := HS2.out; omega))
     refine ⟨rfl, some ⟨W2.heap.size, 0, none⟩, W2.heap.size, m, 0, ⟨hQm, by have := HN.out; have := HM.out; omega, HM.out.2, .inr (by have := HS2.out; omega), by have := HS2.out; omega, (hFw.set (by simp) 0 _).set (by simp) 1 _, ?_, ?_⟩⟩
     ·have hne : w.heap.size ≠ bq := by have := HLQ.out; omega
      refine ((qaK _ bq 1 _ hne).trans (qaK _ bq 0 _ hne)).trans ?_
      rw [HG.out.fr.block w.heap.size (by have := HB23.out.size; have := HS2.out; omega) (by have := HS2.out; simp; omega), HB23.out.block _ (by have := HS2.out; omega)]
      exact HG2.out
     ·have h1 := (HP2.out.fr (R' := R) (Fr.of_below (own := []) HB23.out) (fun b _ hb => ⟨by simp, hb⟩)).fr (R' := R) HG.out.fr (fun b _ hb => ⟨by have := HQ2.out.lt b hb; simp; omega, hb⟩)
      exact h1.fr (((Fr.refl [bq] wr).set (by simp) 0 _).set (by simp) 1 _) (fun b _ hb => ⟨by simp; exact fun e => HQ2.out.nq (e ▸ hb), hb⟩)
  ·have he : ((n : Int) == (x.cap : Int)) = false := beq_eq_false_iff_ne.2 (by omega)
   have HNE := Lib.hid hn; clear hn
   have HLE := Lib.hid hle; clear hle
   go_wp2_with fail
   go_meet
   refine ⟨rfl, x.A, x.gr, x.cap, x.first, ⟨HQ2.out, by rw [HN.out]; have := HNE.out; have := HLE.out; omega, hcap, .inl rfl, ?_, Fr.of_below HB2.out, HG2.out, HP2.out⟩⟩
   have := HNE.out; have := HLE.out
   have := (HQ.out.ngr (by omega)).2.2
   omega
 case rest =>
  clear c0' c2' hle
  obtain ⟨rfl, A2, gr2, cap2, first2, hP⟩ := hcut
  clear hcap
  have hbx := hP.q.box
  rw [HN.out] at hbx
  have hroom := hP.room
  rw [HN.out] at hroom
  have hc8 := hP.c8
  have hf2 : first2 < cap2 := by have h0 := hP.q.ring.fst; change first2 < cap2 ∨ (cap2 = 0 ∧ first2 = 0) at h0; omega
  have hA2 : A2 = some ⟨gr2, 0, none⟩ := by
   have h0 := hP.q.ring.at_
   change (cap2 = 0 ∧ A2 = none) ∨ (0 < cap2 ∧ A2 = some ⟨gr2, 0, none⟩) at h0
   rcases h0 with h | h
   ·omega
   ·exact h.2
  subst hA2
  have c0 : wc.cell? ⟨bq, 0, none⟩ = some (.slice (some ⟨gr2, 0, none⟩) cap2 cap2) := by rw [qaf hbx]; rfl
  have c1 : wc.cell? ⟨bq, 1, none⟩ = some (.int .i64 first2) := by rw [qaf hbx]; rfl
  have c2 : wc.cell? ⟨bq, 2, none⟩ = some (.int .i64 n) := by rw [qaf hbx]; rfl
  have f2 : wc.frozen? ⟨bq, 2, none⟩ = false := by simp [World.frozen?, hbx]
  have hadd : IntKind.i64.wrap ((n : Int) + 1) = (n : Int) + 1 := by rw [IntKind.wrap_i64]; omega
  have HX := Lib.hid hbx; have HPT := Lib.hid hP; clear hbx hP
  go_wp2_with fail
  change Code.wp _ _ _ _ (wc.setCell ⟨bq, 2, none⟩ (.int .i64 (↑n + 1)))
  have hlq2 : bq < wc.heap.size := Nat.lt_of_lt_of_le HLQ.out HPT.out.fr.size
  have hbxV := qaZ HX.out (o := 2) (.int .i64 ((n : Int) + 1))
  have hgV : (wc.setCell ⟨bq, 2, none⟩ (.int .i64 ((n : Int) + 1))).heap[w.heap.size]? = some (.cells (qah h).toArray 63 (0, 0)) := (qaK wc bq 2 _ (by have := HLQ.out; omega)).trans HPT.out.bx
  have hFV : Fr [bq] wc (wc.setCell ⟨bq, 2, none⟩ (.int .i64 ((n : Int) + 1))) := qaE wc bq 2 _
  generalize wc.setCell ⟨bq, 2, none⟩ (.int .i64 ((n : Int) + 1)) = V at *
  clear c0 c1 c2 f2 hadd
  have c0 : V.cell? ⟨bq, 0, none⟩ = some (.slice (some ⟨gr2, 0, none⟩) cap2 cap2) := by rw [qaf hbxV]; rfl
  have c1 : V.cell? ⟨bq, 1, none⟩ = some (.int .i64 first2) := by rw [qaf hbxV]; rfl
  have c2 : V.cell? ⟨bq, 2, none⟩ = some (.int .i64 (↑n + 1)) := by rw [qaf hbxV]; rfl
  have hsub : IntKind.i64.wrap (n : Int) = (n : Int) := by rw [IntKind.wrap_i64]; omega
  have HRA := Lib.hid (show ∀ q, (V.drewN q).rangeAt w.heap.size 0 (qah h) from fun q => qal (pre := []) (mid := qah h) (post := []) (show (V.drewN q).heap[w.heap.size]? = _ from hgV) (by simp) rfl)
  have HCA := Lib.hid (qdu bq gr2 cap2 first2 n V.drew c0 c1 hf2 (by omega) (by omega))
  have HVB := Lib.hid hbxV; have HVG := Lib.hid hgV; have HFV := Lib.hid hFV
  have HRM := Lib.hid hroom; have HLQ2 := Lib.hid hlq2
  clear hbxV hgV hFV c0 c1 hroom hlq2
  refine qaP (S := fun w' => ∃ q, w' = V.drewN q) 9 (by kernel_rfl) ⟨1, rfl⟩ (fun hHeld => ?_)
  refine qad (i := 0) (v := .pointer (some ⟨bq, 0, none⟩)) rfl (by kernel_rfl) (fun _ _ _ h => h) (Or.inl ⟨by rfl, by intro w hSw; clear hSw; go_simp⟩) (by assumption) ?_
  (try simp only [pT])
  refine qad (i := 1) (v := .pointer (some ⟨bq, 0, none⟩)) rfl (by kernel_rfl) (fun _ _ _ h => h) (Or.inl ⟨by rfl, by intro w hSw; clear hSw; go_simp⟩) (by assumption) ?_
  (try simp only [pT])
  refine qad (i := 2) (v := .pointer (some ⟨bq, 0, none⟩)) rfl (by kernel_rfl) (fun _ _ _ h => h) (Or.inl ⟨by rfl, by intro w hSw; clear hSw; go_simp⟩) (by assumption) ?_
  (try simp only [pT])
  refine qad (i := 3) (v := .pointer (some ⟨bq, 2, none⟩)) rfl (by kernel_rfl) (fun _ _ _ h => h) (Or.inl ⟨by rfl, by intro w hSw; clear hSw; go_simp⟩) (by assumption) ?_
  (try simp only [pT])
  refine qad (i := 4) (v := .int .i64 (↑n + 1)) rfl (by kernel_rfl) (fun _ _ _ h => h) (Or.inl ⟨by rfl, by intro w hSw; obtain ⟨q, rfl⟩ := hSw; go_simp⟩) (by assumption) ?_
  (try simp only [pT])
  refine qad (i := 5) (v := .int .i64 ↑n) rfl (by kernel_rfl) (fun _ _ _ h => h) (Or.inl ⟨by rfl, by intro w hSw; clear hSw; go_simp⟩) (by assumption) ?_
  (try simp only [pT])
  refine qad (i := 7) (v := .agg (qah h).toArray) rfl (by kernel_rfl) (fun _ _ _ h => h) (yieldsIf_load_mid (by rfl) 63 _ rfl w.heap.size 0 rfl (qah h) _ (fun _ h => by obtain ⟨q, rfl⟩ := h; exact HRA.out q) qbq rfl qaI) (by assumption) ?_
  (try simp only [pT])
  refine qaq (i := 6) rfl (by kernel_rfl) (fun K hK => ?_)
  go_simp
  refine HCA.out.mono ?_
  rintro e w1 ⟨rfl, rfl⟩
  dsimp only
  refine hK.out _ _ ⟨2, rfl⟩ ?_
  clear hK K hHeld
  (try simp only [pT])
  refine qaq (i := 8) rfl (by kernel_rfl) (fun K hK => ?_)
  go_simp
  refine hK.out _ _ ⟨2, rfl⟩ ?_
  clear hK K
  (try simp only [pT])
  refine qaG (n := 9) (by kernel_rfl) ?_
  simp only [List.drop_succ_cons, List.drop_zero]
  have hthV : V.there gr2 (((first2 + n) % cap2) * 45) (qah h).toArray.size := by
   have h1 : wc.there gr2 0 (cap2 * 45) := by
    have h0 := HPT.out.q.ring.th
    change wc.there gr2 0 (cap2 * 45) ∨ cap2 = 0 at h0
    rcases h0 with h | h
    ·exact h
    ·have := HRM.out; omega
   have hng := HPT.out.q.ngr (show 0 < cap2 by have := HRM.out; omega)
   change gr2 ≠ bq ∧ ¬ R gr2 ∧ gr2 < wc.heap.size at hng
   have h2 := qbp h1 HFV.out (by simpa using hng.1)
   have hm : (first2 + n) % cap2 < cap2 := Nat.mod_lt _ (by have := HRM.out; omega)
   have h3 := Nat.mul_le_mul_right 45 (show (first2 + n) % cap2 + 1 ≤ cap2 by omega)
   intro j hj
   have hj' : j < 45 := by simpa [qbB] using hj
   have := h2 (((first2 + n) % cap2) * 45 + j) (by omega)
   rwa [Nat.zero_add] at this
  have HTV := Lib.hid (show (V.drewN 2).there gr2 (((first2 + n) % cap2) * 45) (qah h).toArray.size from hthV)
  clear hthV
  go_wp2_with (first
   | (refine qaW 63 rfl rfl rfl rfl HTV.out qaI (qbo h) ?_)
   | fail)
  refine bodyPost_ret (results_none rfl _ _ _) rfl ?_
  have hFD : Fr [bq] wc (V.drewN 2) := HFV.out.trans (Fr.drewN [] V 2) (by simp)
  have hQ := HPT.out.q.pushed hFD (by rw [HN.out]; exact HVB.out) (by rw [HN.out]; exact HRM.out) HPT.out.p
  rw [HN.out] at hQ
  refine ⟨rfl, ⟨_, hQ, rfl, rfl, HPT.out.grOk, HPT.out.c8⟩, ?_⟩
  refine (HPT.out.fr.trans hFD (by simp)).trans (qaB _ _ _ _) (fun g hg => ?_)
  simp only [List.mem_singleton] at hg
  subst hg
  rcases HPT.out.grOk with h | h
  ·left; simp [h]
  ·right; exact h
open Go.RowKit Go.MapKept Go.Maps
def RetV (v : Value) (w : World) (e : Ending) (w' : World) : Prop := e = .returned v ∧ ∃ q, w' = w.drewN q
theorem RetV.mk {v u : Value} {w w' : World} (h : v = u) (q : Nat) (hw : w' = w.drewN q) : RetV u w (.returned v) w' := ⟨by rw [h], q, hw⟩
theorem qcL (bq : Nat) (x : QuX) (R : Nat → Prop) (st : QuT) (w : World) (hq : QuAt w bq x R st) : Calls Tryz.prog 26 #[.pointer (some ⟨bq, 0, none⟩)] w (RetV (.int .i64 st.L.length) w) := by
 have c2 : w.cell? ⟨bq, 2, none⟩ = some (.int .i64 st.L.length) := by rw [qaf hq.box]; rfl
 generalize st.L.length = n at *
 clear hq
 go_enter Tryz.func26, Tryz.ntmps26
 go_wp2_with fail
 go_ret
 exact RetV.mk rfl 0 rfl
theorem qij (bq : Nat) (x : QuX) (R : Nat → Prop) (st : QuT) (w : World) (hq : QuAt w bq x R st) : Calls Tryz.prog 28 #[.pointer (some ⟨bq, 0, none⟩)] w (RetV (.int .i64 st.last) w) := by
 have c2 : w.cell? ⟨bq, 6, none⟩ = some (.int .i64 st.last) := by rw [qaf hq.box]; rfl
 generalize st.last = n at *
 clear hq
 go_enter Tryz.func28, Tryz.ntmps28
 go_wp2_with fail
 go_ret
 exact RetV.mk rfl 0 rfl
theorem qfr (bq : Nat) (x : QuX) (R : Nat → Prop) (st : QuT) (w : World) (hq : QuAt w bq x R st) : Calls Tryz.prog 33 #[.pointer (some ⟨bq, 0, none⟩)] w (RetV (.int .i64 st.committed) w) := by
 have c2 : w.cell? ⟨bq, 7, none⟩ = some (.int .i64 st.committed) := by rw [qaf hq.box]; rfl
 generalize st.committed = n at *
 clear hq
 go_enter Tryz.func33, Tryz.ntmps33
 go_wp2_with fail
 go_ret
 exact RetV.mk rfl 0 rfl
theorem qdM (bq : Nat) (x : QuX) (R : Nat → Prop) (st : QuT) (w : World) (hq : QuAt w bq x R st) : Calls Tryz.prog 34 #[.pointer (some ⟨bq, 0, none⟩)] w (RetV (.bool (decide (st.bound ≤ st.L.length))) w) := by
 have c2 : w.cell? ⟨bq, 2, none⟩ = some (.int .i64 st.L.length) := by rw [qaf hq.box]; rfl
 have c3 : w.cell? ⟨bq, 3, none⟩ = some (.int .i64 st.bound) := by rw [qaf hq.box]; rfl
 generalize st.L.length = n at *
 generalize st.bound = b at *
 clear hq
 go_enter Tryz.func34, Tryz.ntmps34
 go_wp2_with fail
 go_region
 all_goals go_wp2_with fail
 all_goals go_ret
 all_goals exact RetV.mk rfl 1 rfl
open Go.RowKit Go.MapKept
def qih (t : RpT) (w : World) (e : Ending) (w' : World) : Prop := (∃ h', e = .returned (rpV h') ∧ RpAt w' (NfR w' w.heap.size) h' t) ∧ Below w.heap.size w w'
theorem qgl (h : RpH) (t : RpT) (w : World) (R : Nat → Prop) (ht : RpAt w R h t) (hok : RpSm 1048576 t) : Calls Tryz.prog 73 #[rpV h] w (qih t w) := by
 have HS := Lib.hid (CnSt.start w (rwRp h) rzRp 61)
 have HC := Lib.hid (fun (W : World) (hW : Below w.heap.size w W) => qga t.r h.r W _ (TrAt.fr kRsOk (R' := R) ht.2 (Fr.of_below (own := []) hW) (fun b _ h => ⟨by simp, h⟩)) hok.2)
 have HE := Lib.hid ht.1
 have r0 : ((w.alloc (.cells (rwRp h) 61)).alloc (.cells rzRp 61)).rangeAt w.heap.size 3 (qax h.r) := qal (pre := [.int .i32 h.xi, .int .i64 h.zx, .int .i32 h.co]) (mid := qax h.r) (post := []) HS.out.c rfl rfl
 clear ht hok
 go_enter Tryz.func73, Tryz.ntmps73
 go_wp2_with (first
  | (apply qai 61 61; exact rfl; exact rfl; exact rfl; (first | (with_reducible rfl) | (exact sz1 _ _) | (exact sz2 _ _ _) | (exact sz3 _ _ _ _)); exact rfl; exact qbM; exact rfl; simp [Value.oneCell'])
  | (apply qau 59; exact rfl; exact rfl; exact rfl; assumption; exact qbY; exact rfl; exact qbk)
  | fail)
 refine (HC.out _ HS.out.b).mono ?_
 generalize ((w.alloc (.cells (rwRp h) 61)).alloc (.cells rzRp 61)) = V0 at *
 rintro e w1 ⟨⟨h6, rfl, ht6⟩, hb⟩
 have HB1 := Lib.hid hb
 have HSZ := Lib.hid HS.out.s
 replace HS := Lib.hid (HS.out.call hb)
 have hth : w1.there w.heap.size 3 22 := qbT HS.out.c _ _ (Nat.le_refl _)
 have hF := qaB w1 w.heap.size 3 (qax h6)
 have gZ : (w1.setCells w.heap.size 3 (qax h6)).heap[w.heap.size + 1]? = some (.cells rzRp 61 (0, 0)) := (hF.block _ (by have := HS.out.s; omega) (by simp)).trans HS.out.z
 have hp : (w1.setCells w.heap.size 3 (qax h6)).rangeAt w.heap.size 0 [.int .i32 h.xi, .int .i64 h.zx, .int .i32 h.co] := World.rangeAt_setCells_apart (qal (pre := []) (mid := [.int .i32 h.xi, .int .i64 h.zx, .int .i32 h.co]) (post := [.int .i32 h.r.n.ty, .int .i32 h.r.n.co, .string h.r.n.path, .int .i64 h.r.n.q.a, .int .i64 h.r.n.q.b, .int .i64 h.r.n.q.c, .int .i64 h.r.n.q.d, .int .i32 h.r.n.q.e, .int .i32 h.r.n.q.f, .int .i32 h.r.n.q.g, .int .i64 h.r.n.q.h, .int .i32 h.r.n.q.i, .int .i32 h.r.n.q.j, .int .i64 h.r.n.q.k, slV h.r.d, slV h.r.a, slV h.r.m, .int .i32 h.r.n.ct, .int .i64 h.r.n.si, .int .i32 h.r.n.st, slV h.r.i, slV h.r.s]) HS.out.c rfl rfl) _ _ _ (.inr (.inl (by simp)))
 have hrr : (w1.setCells w.heap.size 3 (qax h6)).rangeAt w.heap.size 0 (qaX ⟨h.xi, h.zx, h.co, h6⟩) := qca hp (World.rangeAt_setCells_same w1 w.heap.size 3 (qax h6) hth) rfl
 have ht7 : RsAt (w1.setCells w.heap.size 3 (qax h6)) (NfR (w1.setCells w.heap.size 3 (qax h6)) (w.heap.size + 2)) h6 t.r := TrAt.fr kRsOk ht6 hF (fun b _ h => by
  have hn : b ∉ [w.heap.size] := by have := HSZ.out; have := h.1; simp; omega
  exact ⟨hn, h.fr hF hn HSZ.out⟩)
 have HT7 := Lib.hid ht7; have HG := Lib.hid (And.intro (hF.below HS.out.b.size (by simp)) gZ)
 have HF := Lib.hid hF
 clear ht6 hb ht7 hp hF
 go_wp2_with (first
  | (apply qaW 59; exact rfl; exact rfl; exact rfl; exact rfl; assumption; exact qbk; simp [Value.oneCell'])
  | (apply qau 61; exact rfl; exact rfl; exact rfl; assumption; exact qcA; exact rfl; exact qbM)
  | (apply qam 61 61; exact rfl; exact rfl; exact rfl; exact rfl; (first | assumption | (refine qaa ?_; assumption) | (exact qab _ _) | (exact qae _ _ _) | (exact qag _ _ _ _) | (exact qas _ _ _ _ _) | (exact qaa (qab _ _)) | (exact qaa (qae _ _ _)) | (exact qaa (qag _ _ _ _)) | (exact qaa (qaa (qab _ _))) | (exact qaa (qaa (qae _ _ _))) | (exact qaa (qaa (qaa (qab _ _))))); exact qbM; exact rfl; simp [Value.oneCell'])
  | fail)
 have hFr := qaS (w1.setCells w.heap.size 3 (qax h6)) (w.heap.size + 1) (qaX ⟨h.xi, h.zx, h.co, h6⟩).toArray
 exact qaD rfl rfl (setRow_heap _ _ _ _ _ _ gZ) qcA rfl qbM rfl ⟨⟨⟨h.xi, h.zx, h.co, h6⟩, rfl, ⟨HE.out, TrAt.fr kRsOk HT7.out hFr (fun b _ h => by
  have hn : b ∉ [w.heap.size + 1] := by have := h.1; simp; omega
  exact ⟨hn, h.fr hFr hn (by omega)⟩)⟩⟩, below_setRow (HS.out.b.trans HG.out.1) (by omega) _⟩
end Go.Proofs.YtbpmmmnphpkdjaaGreatDoor

/- The program's queue and the document's beside one another: each call on one keeps the other. -/
import Derived.Test.YtbpmmmnphpkdjaaGreatDoorWVtr
import Derived.Test.YtbpmmmnphpkdjaaGreatDoorWRqC
import Derived.Test.YtbpmmmnphpkdjaaGreatDoorWQueB
import Derived.Test.YtbpmmmnphpkdjaaGreatDoorWRqD
import Derived.Test.YtbpmmmnphpkdjaaGreatDoorWRfK
namespace Go.Proofs.YtbpmmmnphpkdjaaGreatDoor
set_option linter.unusedSimpArgs false
set_option maxRecDepth 100000
set_option maxHeartbeats 20000000
open Go.RowKit Go.MapKept Go.Maps
structure PlE (w0 w : World) (bq br : Nat) (sa sb : QuT) (x : QuX) (R : Nat → Prop) (y : RqX) (Q : Nat → Prop) : Prop where
 q : QuW w bq x R sa
 r : RqAt w w0.heap.size br y Q sb
 ia : QuInv sa
 ib : QuInv sb
 s1 : ∀ g ∈ [bq, x.gr, x.ga], g ≠ br ∧ g ≠ y.gv ∧ ¬ Q g
 s2 : ¬ R br ∧ ¬ R y.gv
 la : w0.heap.size ≤ bq ∧ w0.heap.size ≤ x.gr ∧ w0.heap.size ≤ x.ga
 b : Below w0.heap.size w0 w
/-- blocks that are none of either queue's -/
def Away (w0 : World) (bq br : Nat) (x : QuX) (R : Nat → Prop) (y : RqX) (Q P : Nat → Prop) : Prop := ∀ g, P g → g ∉ [bq, x.gr, x.ga] ∧ ¬ R g ∧ g ≠ br ∧ g ≠ y.gv ∧ ¬ Q g ∧ w0.heap.size ≤ g
/-- nothing but blocks of P is written -/
def Only (P : Nat → Prop) (w w' : World) : Prop := ∃ own, Fr own w w' ∧ ∀ g ∈ own, P g
section
variable {w0 w w' : World} {bq br : Nat} {sa sb sa' sb' : QuT} {x : QuX} {R : Nat → Prop} {y : RqX} {Q : Nat → Prop}
theorem PlE.later (H : PlE w0 w bq br sa sb x R y Q) (h : Below w.heap.size w w') : PlE w0 w' bq br sa sb x R y Q :=
 ⟨H.q.below h, H.r.below h, H.ia, H.ib, H.s1, H.s2, H.la, H.b.trans (h.mono H.b.size)⟩
theorem PlE.env (H : PlE w0 w bq br sa sb x R y Q) (hE : Env w0) : Env w := hE.below (Nat.le_refl _) H.b
theorem PlE.lts (H : PlE w0 w bq br sa sb x R y Q) : ∀ g ∈ [bq, x.gr, x.ga], g < w.heap.size := fun g hg => by
 simp only [List.mem_cons, List.not_mem_nil, or_false] at hg
 rcases hg with rfl | rfl | rfl
 ·exact H.q.lt
 ·exact H.q.gr
 ·exact H.q.ga
theorem PlE.las (H : PlE w0 w bq br sa sb x R y Q) : ∀ g ∈ [bq, x.gr, x.ga], w0.heap.size ≤ g := fun g hg => by
 simp only [List.mem_cons, List.not_mem_nil, or_false] at hg
 rcases hg with rfl | rfl | rfl
 ·exact H.la.1
 ·exact H.la.2.1
 ·exact H.la.2.2
theorem PlE.new (H : PlE w0 w bq br sa sb x R y Q) {P : Nat → Prop} (hP : ∀ g, P g → w.heap.size ≤ g) : Away w0 bq br x R y Q P := fun g hg => by
 have h0 := hP g hg
 have hb := H.b.size; have hbl := H.r.bl; have hvl := H.r.vl
 exact ⟨fun h => by have := H.lts g h; omega, fun h => by have := H.q.q.lt _ h; omega, by omega, by omega, fun h => by have := H.r.lt _ h; omega, by omega⟩
theorem PlE.only {P : Nat → Prop} (H : PlE w0 w bq br sa sb x R y Q) (ha : Away w0 bq br x R y Q P) (h : Only P w w') : PlE w0 w' bq br sa sb x R y Q := by
 obtain ⟨own, hf, ho⟩ := h
 refine ⟨H.q.fr hf (fun g hg => ?_), H.r.fr hf (fun g hg => ?_), H.ia, H.ib, H.s1, H.s2, H.la, H.b.trans (hf.below H.b.size (fun g hg => (ha g (ho g hg)).2.2.2.2.2))⟩
 ·have h1 := ha g (ho g hg)
  have h2 := h1.1
  simp only [List.mem_cons, List.not_mem_nil, or_false, not_or] at h2
  exact ⟨h2.1, h2.2.1, h2.2.2, h1.2.1⟩
 ·have h1 := ha g (ho g hg)
  exact ⟨h1.2.2.1, h1.2.2.2.1, h1.2.2.2.2.1, h1.2.2.2.2.2⟩
theorem PlE.stepA (H : PlE w0 w bq br sa sb x R y Q) (hs : QuStep bq x R sa' w w') (ia : QuInv sa') : ∃ x' R', PlE w0 w' bq br sa' sb x' R' y Q ∧ (∀ b, R' b → R b ∨ w.heap.size ≤ b) ∧ ∀ P : Nat → Prop, (∀ g, P g → g < w.heap.size) → Away w0 bq br x R y Q P → Away w0 bq br x' R' y Q P := by
 obtain ⟨⟨x', R', k1, k2, k3, k4⟩, k5⟩ := hs
 have hbl := H.r.bl; have hvl := H.r.vl
 refine ⟨x', R', ⟨k1, H.r.fr k5 (fun g hg => ⟨(H.s1 g hg).1, (H.s1 g hg).2.1, (H.s1 g hg).2.2, H.las g hg⟩), ia, H.ib, fun g hg => ?_, ⟨fun hr => ?_, fun hr => ?_⟩, ⟨H.la.1, ?_, by rw [k2]; exact H.la.2.2⟩, H.b.trans (k5.below H.b.size H.las)⟩, k4, fun P hP hA g hg => ?_⟩
 ·simp only [List.mem_cons, List.not_mem_nil, or_false] at hg
  rcases hg with rfl | rfl | rfl
  ·exact H.s1 _ (by simp)
  ·rcases k3 with h | h
   ·rw [h]; exact H.s1 _ (by simp)
   ·exact ⟨by omega, by omega, fun hq => by have := H.r.lt _ hq; omega⟩
  ·rw [k2]; exact H.s1 _ (by simp)
 ·rcases k4 _ hr with h | h
  ·exact H.s2.1 h
  ·omega
 ·rcases k4 _ hr with h | h
  ·exact H.s2.2 h
  ·omega
 ·rcases k3 with h | h
  ·rw [h]; exact H.la.2.1
  ·exact Nat.le_trans H.b.size h
 ·obtain ⟨h1, h2, h3, h4, h5, h6⟩ := hA g hg
  have hl := hP g hg
  simp only [List.mem_cons, List.not_mem_nil, or_false, not_or] at h1
  refine ⟨?_, fun hr => ?_, h3, h4, h5, h6⟩
  ·simp only [List.mem_cons, List.not_mem_nil, or_false, not_or]
   refine ⟨h1.1, ?_, by rw [k2]; exact h1.2.2⟩
   rcases k3 with h | h
   ·rw [h]; exact h1.2.1
   ·omega
  ·rcases k4 _ hr with h | h
   ·exact h2 h
   ·omega
theorem PlE.stepB (H : PlE w0 w bq br sa sb x R y Q) (hs : RqStep w0.heap.size br y Q sb' w w') (ib : QuInv sb') : ∃ y' Q', PlE w0 w' bq br sa sb' x R y' Q' ∧ ∀ P : Nat → Prop, (∀ g, P g → g < w.heap.size) → Away w0 bq br x R y Q P → Away w0 bq br x R y' Q' P := by
 obtain ⟨⟨y', Q', k1, k2, k4⟩, k5⟩ := hs
 have e1 := H.s1 bq (by simp); have e2 := H.s1 x.gr (by simp); have e3 := H.s1 x.ga (by simp)
 refine ⟨y', Q', ⟨H.q.fr k5 (fun g hg => ?_), k1, H.ia, ib, fun g hg => ⟨(H.s1 g hg).1, by rw [k2]; exact (H.s1 g hg).2.1, fun hq => ?_⟩, ⟨H.s2.1, by rw [k2]; exact H.s2.2⟩, H.la, H.b.trans (k5.below H.b.size (fun g hg => ?_))⟩, fun P hP hA g hg => ?_⟩
 ·simp only [List.mem_cons, List.not_mem_nil, or_false] at hg
  rcases hg with rfl | rfl
  ·exact ⟨fun e => e1.1 e.symm, fun e => e2.1 e.symm, fun e => e3.1 e.symm, H.s2.1⟩
  ·exact ⟨fun e => e1.2.1 e.symm, fun e => e2.2.1 e.symm, fun e => e3.2.1 e.symm, H.s2.2⟩
 ·rcases k4 _ hq with h | h
  ·exact (H.s1 g hg).2.2 h
  ·have := H.lts g hg; omega
 ·simp only [List.mem_cons, List.not_mem_nil, or_false] at hg
  rcases hg with rfl | rfl
  ·exact H.r.ge.1
  ·exact H.r.ge.2.1
 ·obtain ⟨h1, h2, h3, h4, h5, h6⟩ := hA g hg
  have hl := hP g hg
  refine ⟨h1, h2, h3, by rw [k2]; exact h4, fun hq => ?_, h6⟩
  rcases k4 _ hq with h | h
  ·exact h5 h
  ·omega
end
open Go.RowKit Go.MapKept Go.Maps
/-- what spoil works on: a proposal in a variable, its rows in blocks of P -/
structure SpS (w0 : World) (g : Nat) (P : Nat → Prop) (h : PrH) (w : World) : Prop where
 box : w.heap[g]? = some (.cells (qah h).toArray 63 (0, 0))
 ng : ¬ P g
 nf : PrNf w P h
 b : Only P w0 w
theorem Only.set {P : Nat → Prop} {w0 w : World} (H : Only P w0 w) {a : Nat} (ha : P a) (o : Nat) (v : Value) : Only P w0 (w.setCell ⟨a, o, none⟩ v) := by
 obtain ⟨own, hf, ho⟩ := H
 exact ⟨a :: own, (Fr.set ⟨hf.os, hf.tape, hf.output, hf.size, fun g hg hn => hf.block g hg (fun h => hn (List.mem_cons_of_mem _ h))⟩ (by simp) o v), fun g hg => by
  rcases List.mem_cons.1 hg with rfl | h
  ·exact ha
  ·exact ho g h⟩
/-- a row of bytes -/
def DaU (w : World) (s : SlC) : Prop := ∀ b off, s.1 = some ⟨b, off, none⟩ → ∀ j, j < s.2.1 → ∃ x : Int, w.cell? ⟨b, off + j, none⟩ = some (.int .u8 x)
theorem SlN.put_ {w : World} {R : Nat → Prop} {k : Nat} {s : SlC} (H : SlN w R k s) (a : Nat) (o : Nat) (v : Value) : SlN (w.setCell ⟨a, o, none⟩ v) R k s := fun b off e h0 =>
 ⟨(H b off e h0).1, World.there_setCells (H b off e h0).2 a o [v]⟩
theorem SpS.set {w0 : World} {g : Nat} {P : Nat → Prop} {h : PrH} {w : World} (H : SpS w0 g P h w) {a : Nat} (ha : P a) (o : Nat) (v : Value) : SpS w0 g P h (w.setCell ⟨a, o, none⟩ v) :=
 ⟨(qaK w a o v (by rintro rfl; exact H.ng ha)).trans H.box, H.ng, ⟨⟨H.nf.1.1.put_ a o v, H.nf.1.2.1.put_ a o v, H.nf.1.2.2.put_ a o v⟩, ⟨H.nf.2.1.put_ a o v, H.nf.2.2.put_ a o v⟩⟩, H.b.set ha o v⟩
theorem SpS.c {w0 : World} {g : Nat} {P : Nat → Prop} {h : PrH} {w : World} (H : SpS w0 g P h w) {i : Nat} {v : Value} (hv : (qah h).toArray[i]? = some v) : w.cell? ⟨g, i, none⟩ = some v := by rw [qaf H.box]; exact hv
theorem SpS.drew {w0 : World} {g : Nat} {P : Nat → Prop} {h : PrH} {w : World} (H : SpS w0 g P h w) : SpS w0 g P h w.drew := ⟨H.box, H.ng, H.nf, by
 obtain ⟨own, hf, ho⟩ := H.b
 exact ⟨own, hf.trans (Fr.of_below (own := []) (qaj w)) (by simp), ho⟩⟩
/-- one cell of a row -/
theorem SlN.cell {w : World} {R : Nat → Prop} {k : Nat} {s : SlC} (H : SlN w R k s) {b off : Nat} (e : s.1 = some ⟨b, off, none⟩) {j i : Nat} (hj : j < s.2.1) (hi : i < k) : R b ∧ (∃ u, w.cell? ⟨b, off + j * k + i, none⟩ = some u) ∧ w.frozen? ⟨b, off + j * k + i, none⟩ = false := by
 obtain ⟨h1, h2⟩ := H b off e (by omega)
 have hm := Nat.mul_le_mul_right k (show j + 1 ≤ s.2.1 from hj)
 rw [Nat.add_mul, Nat.one_mul] at hm
 obtain ⟨h3, h4⟩ := h2 (j * k + i) (by omega)
 rw [← Nat.add_assoc] at h3 h4
 exact ⟨h1, Option.isSome_iff_exists.1 h3, h4⟩
/-- a header that is nil, or has an address -/
def HdA (s : SlC) : Prop := 0 < s.2.1 → ∃ b off, s.1 = some ⟨b, off, none⟩
theorem SlR.hda {α : Type} [Inhabited α] {w : World} {R : Nat → Prop} {enc : α → List Value} {k : Nat} {s : SlC} {zs : List α} (H : SlR w R enc k s zs) : HdA s := fun h0 => by
 obtain ⟨b, off, e, _⟩ := H.2.2 h0
 exact ⟨b, off, e⟩
theorem DaU.of {w : World} {R : Nat → Prop} {s : SlC} {zs : Bs} (H : SlR w R enc8 1 s zs) : DaU w s := fun b off e j hj => by
 obtain ⟨b2, off2, e2, _, hc⟩ := H.2.2 (by omega)
 rw [e] at e2; injection e2 with e2; injection e2 with e3 e4
 subst e3 e4
 have := hc j hj 0 _ rfl
 rw [Nat.mul_one, Nat.add_zero] at this
 exact ⟨_, this⟩
theorem DaU.set {w : World} {s : SlC} (H : DaU w s) (a o : Nat) (x : Int) : DaU (w.setCell ⟨a, o, none⟩ (.int .u8 x)) s := fun b off e j hj => by
 obtain ⟨y, hy⟩ := H b off e j hj
 by_cases hp : (⟨a, o, none⟩ : Addr) = ⟨b, off + j, none⟩
 ·rw [hp]; exact ⟨x, World.cell?_setCell_same w _ _ hy⟩
 ·exact ⟨y, (World.cell?_setCell_other w _ _ _ hp).trans hy⟩
/-- what spoil asks of a proposal's rows -/
theorem PrAt.hda {w : World} {R : Nat → Prop} {h : PrH} {p : PrT} (H : PrAt w R h p) (hs : PrSm 1048576 p) : (h.d.t.d.2.1 ≤ 1048576 ∧ h.d.t.s.2.1 ≤ 1048576 ∧ h.d.t.p.2.1 ≤ 1048576 ∧ h.r.r.m.2.1 ≤ 1048576 ∧ h.r.r.s.2.1 ≤ 1048576) ∧ DaU w h.d.t.d ∧ HdA h.d.t.d ∧ HdA h.d.t.s ∧ HdA h.d.t.p ∧ HdA h.r.r.m ∧ HdA h.r.r.s := by
 obtain ⟨L, hL, _⟩ := TrAt.subs_at H.1.2
 obtain ⟨L2, hL2, _⟩ := TrAt.subs_at H.2.2
 have h1 : locTx w R h.d.t p.d.t.v := TrAt.loc H.1.2
 have h2 : locRs w R h.r.r p.r.r.v := TrAt.loc H.2.2
 have k1 := hs.1.2.top; have k2 := hs.2.2.top
 have l1 := h1.2.1.len; have l2 := TrAt.len H.1.2; have l3 := h1.2.2.2.2.len; have l4 := h2.2.2.2.1.len; have l5 := TrAt.len H.2.2
 refine ⟨⟨by rw [← l1]; exact k1.2.2.1, by rw [show h.d.t.s.2.1 = _ from l2.symm]; exact k1.2.2.2.2.2.2.1, by rw [← l3]; exact k1.2.2.2.2.2.1, by rw [← l4]; exact k2.2.2.2.2.1, by rw [show h.r.r.s.2.1 = _ from l5.symm]; exact k2.2.2.2.2.2.2.1⟩, ?_⟩
 exact ⟨.of h1.2.1, h1.2.1.hda, SlR.hda hL, h1.2.2.2.2.hda, h2.2.2.2.1.hda, SlR.hda hL2⟩
def qpf (P : Nat → Prop) (w : World) (e : Ending) (w' : World) : Prop := e = .returned (.tuple #[]) ∧ Only P w w'
theorem qeF (w : World) (g : Nat) (P : Nat → Prop) (h : PrH) {Rp : Nat → Prop} {p : PrT} (H : SpS w g P h w) (hp : PrAt w Rp h p) (hsm : PrSm 1048576 p) :
  Calls Tryz.prog 36 #[.pointer (some ⟨g, 0, none⟩)] w (qpf P w) := by
 obtain ⟨⟨n1, n2, n3, n4, n5⟩, hu, a1, a2, a3, a4, a5⟩ := hp.hda hsm
 clear hp hsm
 have HS := Lib.hid H; have HU := Lib.hid hu; have HA1 := Lib.hid a1; have HA2 := Lib.hid a2; have HA3 := Lib.hid a3; have HA4 := Lib.hid a4; have HA5 := Lib.hid a5
 clear H hu a1 a2 a3 a4 a5
 go_enter Tryz.func36, Tryz.ntmps36
 go_wp2_with fail
 go_loopw [2] (fun i wr => ∃ k : Nat, i = .int .i64 ↑k ∧ k ≤ h.d.t.d.2.1 ∧ SpS w g P h wr ∧ DaU wr h.d.t.d) (fun i _ => h.d.t.d.2.1 - (intOf i).toNat)
 case atStart => exact ⟨0, rfl, Nat.zero_le _, HS.out, HU.out⟩
 case round =>
 clear HS HU
 obtain ⟨k, rfl, hk, hs, hu⟩ := hrel
 have HS := Lib.hid hs; have HU := Lib.hid hu
 clear hs hu
 have hc0 := HS.out.c (i := 6) (v := slV h.d.t.d) rfl
 by_cases hlt : k < h.d.t.d.2.1
 ·obtain ⟨b, off, e⟩ := HA1.out (by omega)
  have HR := Lib.hid (HS.out.nf.1.1.cell e hlt (show 0 < 1 by decide))
  obtain ⟨x, hx⟩ := HU.out b off e k hlt
  have hf := HR.out.2.2
  rw [Nat.mul_one, Nat.add_zero] at hf
  have hc : wr.cell? ⟨g, 6, none⟩ = some (.slice (some ⟨b, off, none⟩) h.d.t.d.2.1 h.d.t.d.2.2) := by rw [hc0]; rw [← e]
  have hki : (k : Int) < (h.d.t.d.2.1 : Int) := by omega
  have hk0 : (0 : Int) ≤ (k : Int) := by omega
  have HK := Lib.hid hlt
  clear e hc0
  go_wp2_with fail
  go_region
  go_wp2_with fail
  go_roundw
  case rel => exact ⟨k + 1, by go_num, by have := HK.out; omega, (HS.out.set HR.out.1 _ _).drew, HU.out.set _ _ _⟩
  case measure => have := HK.out; show h.d.t.d.2.1 - ((↑k + 1 : Int)).toNat < h.d.t.d.2.1 - (↑k : Int).toNat; omega
 ·obtain rfl : k = h.d.t.d.2.1 := by omega
  go_wp2_with fail
  go_loopw [3] (fun i wr => ∃ k : Nat, i = .int .i64 ↑k ∧ k ≤ h.d.t.s.2.1 ∧ SpS w g P h wr) (fun i _ => h.d.t.s.2.1 - (intOf i).toNat)
  case atStart => exact ⟨0, rfl, Nat.zero_le _, HS.out⟩
  case round =>
  clear HS
  obtain ⟨k, rfl, hk, hs⟩ := hrel
  have HS := Lib.hid hs
  clear hs
  have hc0 := HS.out.c (i := 19) (v := slV h.d.t.s) rfl
  by_cases hlt : k < h.d.t.s.2.1
  ·obtain ⟨b, off, e⟩ := HA2.out (by omega)
   have HR := Lib.hid (HS.out.nf.1.2.2.cell e hlt (show 1 < 16 by decide))
   obtain ⟨u, hx⟩ := HR.out.2.1
   have hf := HR.out.2.2
   have hc : wr.cell? ⟨g, 19, none⟩ = some (.slice (some ⟨b, off, none⟩) h.d.t.s.2.1 h.d.t.s.2.2) := by rw [hc0]; rw [← e]
   have hki : (k : Int) < (h.d.t.s.2.1 : Int) := by omega
   have hk0 : (0 : Int) ≤ (k : Int) := by omega
   have HK := Lib.hid hlt
   clear e hc0
   go_wp2_with fail
   go_roundw
   case rel => exact ⟨k + 1, by go_num, by have := HK.out; omega, HS.out.set HR.out.1 _ _⟩
   case measure => have := HK.out; show h.d.t.s.2.1 - ((↑k + 1 : Int)).toNat < h.d.t.s.2.1 - (↑k : Int).toNat; omega
  ·obtain rfl : k = h.d.t.s.2.1 := by omega
   go_wp2_with fail
   go_loopw [4] (fun i wr => ∃ k : Nat, i = .int .i64 ↑k ∧ k ≤ h.d.t.p.2.1 ∧ SpS w g P h wr) (fun i _ => h.d.t.p.2.1 - (intOf i).toNat)
   case atStart => exact ⟨0, rfl, Nat.zero_le _, HS.out⟩
   case round =>
   clear HS
   obtain ⟨k, rfl, hk, hs⟩ := hrel
   have HS := Lib.hid hs
   clear hs
   have hc0 := HS.out.c (i := 17) (v := slV h.d.t.p) rfl
   by_cases hlt : k < h.d.t.p.2.1
   ·obtain ⟨b, off, e⟩ := HA3.out (by omega)
    have HR := Lib.hid (HS.out.nf.1.2.1.cell e hlt (show 0 < 1 by decide))
    obtain ⟨u, hx⟩ := HR.out.2.1
    have hf := HR.out.2.2
    rw [Nat.mul_one, Nat.add_zero] at hf hx
    have hc : wr.cell? ⟨g, 17, none⟩ = some (.slice (some ⟨b, off, none⟩) h.d.t.p.2.1 h.d.t.p.2.2) := by rw [hc0]; rw [← e]
    have hki : (k : Int) < (h.d.t.p.2.1 : Int) := by omega
    have hk0 : (0 : Int) ≤ (k : Int) := by omega
    have HK := Lib.hid hlt
    clear e hc0
    go_wp2_with fail
    go_roundw
    case rel => exact ⟨k + 1, by go_num, by have := HK.out; omega, HS.out.set HR.out.1 _ _⟩
    case measure => have := HK.out; show h.d.t.p.2.1 - ((↑k + 1 : Int)).toNat < h.d.t.p.2.1 - (↑k : Int).toNat; omega
   ·obtain rfl : k = h.d.t.p.2.1 := by omega
    go_wp2_with fail
    go_loopw [5] (fun i wr => ∃ k : Nat, i = .int .i64 ↑k ∧ k ≤ h.r.r.m.2.1 ∧ SpS w g P h wr) (fun i _ => h.r.r.m.2.1 - (intOf i).toNat)
    case atStart => exact ⟨0, rfl, Nat.zero_le _, HS.out⟩
    case round =>
    clear HS
    obtain ⟨k, rfl, hk, hs⟩ := hrel
    have HS := Lib.hid hs
    clear hs
    have hc0 := HS.out.c (i := 39) (v := slV h.r.r.m) rfl
    by_cases hlt : k < h.r.r.m.2.1
    ·obtain ⟨b, off, e⟩ := HA4.out (by omega)
     have HR := Lib.hid (HS.out.nf.2.1.cell e hlt (show 0 < 1 by decide))
     obtain ⟨u, hx⟩ := HR.out.2.1
     have hf := HR.out.2.2
     rw [Nat.mul_one, Nat.add_zero] at hf hx
     have hc : wr.cell? ⟨g, 39, none⟩ = some (.slice (some ⟨b, off, none⟩) h.r.r.m.2.1 h.r.r.m.2.2) := by rw [hc0]; rw [← e]
     have hki : (k : Int) < (h.r.r.m.2.1 : Int) := by omega
     have hk0 : (0 : Int) ≤ (k : Int) := by omega
     have HK := Lib.hid hlt
     clear e hc0
     go_wp2_with fail
     go_roundw
     case rel => exact ⟨k + 1, by go_num, by have := HK.out; omega, HS.out.set HR.out.1 _ _⟩
     case measure => have := HK.out; show h.r.r.m.2.1 - ((↑k + 1 : Int)).toNat < h.r.r.m.2.1 - (↑k : Int).toNat; omega
    ·obtain rfl : k = h.r.r.m.2.1 := by omega
     go_wp2_with fail
     go_loopw [6] (fun i wr => ∃ k : Nat, i = .int .i64 ↑k ∧ k ≤ h.r.r.s.2.1 ∧ SpS w g P h wr) (fun i _ => h.r.r.s.2.1 - (intOf i).toNat)
     case atStart => exact ⟨0, rfl, Nat.zero_le _, HS.out⟩
     case round =>
     clear HS
     obtain ⟨k, rfl, hk, hs⟩ := hrel
     have HS := Lib.hid hs
     clear hs
     have hc0 := HS.out.c (i := 44) (v := slV h.r.r.s) rfl
     by_cases hlt : k < h.r.r.s.2.1
     ·obtain ⟨b, off, e⟩ := HA5.out (by omega)
      have HR := Lib.hid (HS.out.nf.2.2.cell e hlt (show 2 < 22 by decide))
      obtain ⟨u, hx⟩ := HR.out.2.1
      have hf := HR.out.2.2
      have hc : wr.cell? ⟨g, 44, none⟩ = some (.slice (some ⟨b, off, none⟩) h.r.r.s.2.1 h.r.r.s.2.2) := by rw [hc0]; rw [← e]
      have hki : (k : Int) < (h.r.r.s.2.1 : Int) := by omega
      have hk0 : (0 : Int) ≤ (k : Int) := by omega
      have HK := Lib.hid hlt
      clear e hc0
      go_wp2_with fail
      go_roundw
      case rel => exact ⟨k + 1, by go_num, by have := HK.out; omega, HS.out.set HR.out.1 _ _⟩
      case measure => have := HK.out; show h.r.r.s.2.1 - ((↑k + 1 : Int)).toNat < h.r.r.s.2.1 - (↑k : Int).toNat; omega
     ·obtain rfl : k = h.r.r.s.2.1 := by omega
      go_wp2_with fail
      refine bodyPost_ret (results_none rfl _ _ _) rfl ?_
      exact ⟨rfl, HS.out.b⟩
open Go.RowKit Go.MapKept Go.Maps
theorem qls (bq b1 b2 i : Nat) (z : Int) (x : QuX) (R : Nat → Prop) (st : QuT) (w : World) (hq : QuAt w bq x R st) (c1 : w.cell? ⟨b1, 0, none⟩ = some (.pointer (some ⟨bq, 0, none⟩))) (c2 : w.cell? ⟨b2, 0, none⟩ = some (.int .i64 z)) (hi : i < st.L.length) (hcap : x.cap ≤ 8192) :
  Calls Tryz.prog 82 #[.int .i64 i, .pointer (some ⟨b1, 0, none⟩), .pointer (some ⟨b2, 0, none⟩)] w fun e w' => e = .returned (.bool (decide (z ≤ st.L[i]!.d.zx))) ∧ ∃ m, w' = w.drewN m := by
 obtain ⟨hA, hf, -⟩ := hq.ring.full (by omega)
 have hle := hq.ring.le
 have hbx := hq.box
 rw [hA] at hbx
 obtain ⟨h, hr, hp⟩ := hq.ring.el i hi
 have hz := hp.1.1.2.2.1
 have cz : w.cell? ⟨x.gr, ((x.first + i) % x.cap) * 45 + 2, none⟩ = some (.int .i64 st.L[i]!.d.zx) := by rw [hz]; exact hr 2 _ rfl
 have HAT := Lib.hid (fun q => at_q bq x.gr x.cap x.first i w q (by rw [qaf hbx]; rfl) (by rw [qaf hbx]; rfl) hf (by omega) (by omega))
 generalize (x.first + i) % x.cap = m at *
 generalize st.L[i]!.d.zx = y at *
 clear hq hA hf hle hbx hr hp hz
 go_enter Tryz.func82, Tryz.ntmps82
 go_wp2_with fail
 go_quiet (exact HAT.out _)
 go_wp2_with fail
 go_ret
 exact ⟨rfl, _, rfl⟩
theorem qfd (bq : Nat) (x : QuX) (R : Nat → Prop) (st : QuT) (z : Int) (w : World) (hq : QuAt w bq x R st) (hr : qdb (zxs st.L)) (hl : st.L.length ≤ 4096) (hcap : x.cap ≤ 8192) :
  Calls Tryz.prog 38 #[.pointer (some ⟨bq, 0, none⟩), .int .i64 z] w (FndW st z w) := by
 have hbb : Below w.heap.size w ((w.alloc (.cells #[.pointer (some ⟨bq, 0, none⟩)] 37)).alloc (.cells #[.int .i64 z] 2)) := ((Below.refl _ w).alloc (Nat.le_refl _) _).alloc (by simp) _
 have HBB := Lib.hid hbb
 have hq1 := hq.below hbb
 have c1 : ((w.alloc (.cells #[.pointer (some ⟨bq, 0, none⟩)] 37)).alloc (.cells #[.int .i64 z] 2)).cell? ⟨w.heap.size, 0, none⟩ = some (.pointer (some ⟨bq, 0, none⟩)) := by
  rw [qaf (qaa (qab w _))]; rfl
 have c2 : ((w.alloc (.cells #[.pointer (some ⟨bq, 0, none⟩)] 37)).alloc (.cells #[.int .i64 z] 2)).cell? ⟨w.heap.size + 1, 0, none⟩ = some (.int .i64 z) := by
  rw [qaf (qae w _ _)]; rfl
 have HI := Lib.hid (show ∀ i, i < st.L.length → decide (fndN st z ≤ i) = decide (z ≤ st.L[i]!.d.zx) from fun i hi => by
  by_cases h : fndN st z ≤ i
  ·rw [decide_eq_true h, decide_eq_true (qig st z hr i h hi)]
  ·have := qju st z i (by omega)
   rw [decide_eq_false h, decide_eq_false (by omega)])
 have HLE := Lib.hid (qiV st z)
 have HFB := Lib.hid (show fndB st z = (decide (fndN st z < st.L.length) && (st.L[fndN st z]!.d.zx == z)) from rfl)
 generalize hW : (w.alloc (.cells #[.pointer (some ⟨bq, 0, none⟩)] 37)).alloc (.cells #[.int .i64 z] 2) = W at *
 have HWW := Lib.hid hW
 have HQ1 := Lib.hid hq1
 have HLN := Lib.hid (fun q => qcL bq x R st (W.drewN q) (hq1.fr (Fr.drewN [] _ q) (by simp) (by simp) (by simp) (by simp)))
 have HSR := Lib.hid (fun q0 => qfU 82 #[.pointer (some ⟨w.heap.size, 0, none⟩), .pointer (some ⟨w.heap.size + 1, 0, none⟩)] (fun _ _ => rfl) st.L.length (fndN st z) (W.drewN q0) (by omega) HLE.out (fun q i hi => by
  rw [HI.out i hi]
  refine (qls bq w.heap.size (w.heap.size + 1) i z x R st ((W.drewN q0).drewN q) ((HQ1.out.fr (Fr.drewN [] _ q0) (by simp) (by simp) (by simp) (by simp)).fr (Fr.drewN [] _ q) (by simp) (by simp) (by simp) (by simp)) c1 c2 hi hcap).mono ?_
  rintro e w' ⟨rfl, m, rfl⟩
  exact ⟨rfl, q + m, World.drewN_drewN ..⟩))
 have HEL := Lib.hid (fun hlt : fndN st z < st.L.length => by
  obtain ⟨hA, hf, -⟩ := hq1.ring.full (by omega)
  have hle := hq1.ring.le
  have hbx := hq1.box
  rw [hA] at hbx
  obtain ⟨h, hr, hp⟩ := hq1.ring.el (fndN st z) hlt
  have hz := hp.1.1.2.2.1
  have cz : W.cell? ⟨x.gr, ((x.first + fndN st z) % x.cap) * 45 + 2, none⟩ = some (.int .i64 st.L[fndN st z]!.d.zx) := by rw [hz]; exact hr 2 _ rfl
  exact And.intro cz (fun q => qdu bq x.gr x.cap x.first (fndN st z) (W.drewN q) (by show W.cell? _ = _; rw [qaf hbx]; rfl) (by show W.cell? _ = _; rw [qaf hbx]; rfl) hf (by omega) (by omega)))
 clear hq hq1 hbb HI hr HQ1
 generalize hrN : fndN st z = r at *
 have HRN := Lib.hid hrN
 generalize st.L.length = n at *
 clear hrN hW
 go_enter Tryz.func38, Tryz.ntmps38
 go_upto_region 1 with fail
 rw [HWW.out]
 go_wp2_with fail
 refine (HLN.out 0).mono ?_
 rintro e w2 ⟨rfl, q2, rfl⟩
 rw [show (W.drewN 0).drewN q2 = W.drewN q2 by rw [World.drewN_drewN, Nat.zero_add]]
 go_wp2_with fail
 refine (HSR.out q2).mono ?_
 rintro e w4 ⟨rfl, q4, rfl⟩
 rw [World.drewN_drewN]
 by_cases hlt : r < n
 ·obtain ⟨cz, hat⟩ := HEL.out hlt
  have HAT := Lib.hid hat
  have hri : (r : Int) < (n : Int) := by omega
  have HF := Lib.hid (show fndB st z = (st.L[r]!.d.zx == z) by rw [HFB.out, decide_eq_true hlt, Bool.true_and])
  generalize st.L[r]!.d.zx = yy at *
  generalize (x.first + r) % x.cap = m at *
  clear hat hlt HFB HEL
  have HLV := Lib.hid (fun q => show Calls Tryz.prog 26 #[.pointer (some ⟨bq, 0, none⟩)] ((W.drewN (q2 + q4)).drewN q) (fun e w' => e = .returned (.int .i64 n) ∧ ∃ m, w' = (W.drewN (q2 + q4)).drewN m) from by
   rw [World.drewN_drewN]
   refine (HLN.out _).mono ?_
   rintro e w' ⟨rfl, m, rfl⟩
   exact ⟨rfl, q + m, by simp only [World.drewN_drewN, Nat.add_assoc]⟩)
  have HAV := Lib.hid (fun q => show Calls Tryz.prog 69 #[.pointer (some ⟨bq, 0, none⟩), .int .i64 r] ((W.drewN (q2 + q4)).drewN q) (fun e w' => e = .returned (.pointer (some ⟨x.gr, m * 45, none⟩)) ∧ ∃ m, w' = (W.drewN (q2 + q4)).drewN m) from by
   rw [World.drewN_drewN]
   refine (HAT.out _).mono ?_
   rintro e w' ⟨rfl, rfl⟩
   exact ⟨rfl, q + 1, by simp only [World.drewN_drewN]; rfl⟩)
  have d1 : (W.drewN (q2 + q4)).cell? ⟨w.heap.size, 0, none⟩ = some (.pointer (some ⟨bq, 0, none⟩)) := c1
  have d2 : (W.drewN (q2 + q4)).cell? ⟨w.heap.size + 1, 0, none⟩ = some (.int .i64 z) := c2
  have HBV := Lib.hid (qac HBB.out (q2 + q4))
  clear HAT HLN HSR c1 c2 HBB HWW
  have d3 : (W.drewN (q2 + q4)).cell? ⟨x.gr, m * 45 + 2, none⟩ = some (.int .i64 yy) := cz
  clear cz
  generalize W.drewN (q2 + q4) = V at *
  go_upto_region 2 with fail
  go_quiet (first | exact HLV.out _ | exact HAV.out _)
  go_wp2_with fail
  go_ret2
  exact FndW.mk (by rw [HRN.out]) HF.out (qac HBV.out _)
 ·have HF := Lib.hid (show fndB st z = false by rw [HFB.out, decide_eq_false hlt, Bool.false_and])
  have hri : ¬ (r : Int) < (n : Int) := by omega
  clear HFB HEL
  have HLV := Lib.hid (fun q => show Calls Tryz.prog 26 #[.pointer (some ⟨bq, 0, none⟩)] ((W.drewN (q2 + q4)).drewN q) (fun e w' => e = .returned (.int .i64 n) ∧ ∃ m, w' = (W.drewN (q2 + q4)).drewN m) from by
   rw [World.drewN_drewN]
   refine (HLN.out _).mono ?_
   rintro e w' ⟨rfl, m, rfl⟩
   exact ⟨rfl, q + m, by simp only [World.drewN_drewN, Nat.add_assoc]⟩)
  have d1 : (W.drewN (q2 + q4)).cell? ⟨w.heap.size, 0, none⟩ = some (.pointer (some ⟨bq, 0, none⟩)) := c1
  have d2 : (W.drewN (q2 + q4)).cell? ⟨w.heap.size + 1, 0, none⟩ = some (.int .i64 z) := c2
  have HBV := Lib.hid (qac HBB.out (q2 + q4))
  clear HLN HSR c1 c2 HBB HWW
  generalize W.drewN (q2 + q4) = V at *
  go_upto_region 2 with fail
  go_quiet (first | exact HLV.out _)
  go_wp2_with fail
  go_ret2
  exact FndW.mk (by rw [HRN.out]) HF.out (qac HBV.out _)
open Go.RowKit Go.MapKept Go.Maps
def qlD (t : DlT) (w : World) (e : Ending) (w' : World) : Prop := (∃ h', e = .returned (dlV h') ∧ DlAt w' (w.heap.size ≤ ·) h' t ∧ TxNf w' (w.heap.size ≤ ·) h'.t) ∧ Below w.heap.size w w'
theorem qhJ (h : DlH) (t : DlT) (w : World) (R : Nat → Prop) (ht : DlAt w R h t) (hok : DlSm 1048576 t) : Calls Tryz.prog 109 #[dlV h] w (qlD t w) := by
 have HS := Lib.hid (CnSt.start w (rwDl h) rzDl 54)
 have HC := Lib.hid (fun (W : World) (hW : Below w.heap.size w W) => qiJ t.t h.t W _ (TrAt.fr kTxOk (R' := R) ht.2 (Fr.of_below (own := []) hW) (fun b _ h => ⟨by simp, h⟩)) hok.2)
 have HE := Lib.hid ht.1
 have r0 : ((w.alloc (.cells (rwDl h) 54)).alloc (.cells rzDl 54)).rangeAt w.heap.size 4 (qar h.t) := qal (pre := [.int .i64 h.se, .int .i32 h.xi, .int .i64 h.zx, .int .i64 h.ti]) (mid := qar h.t) (post := []) HS.out.c rfl rfl
 clear ht hok
 go_enter Tryz.func109, Tryz.ntmps109
 go_wp2_with (first
  | (apply qai 54 54; exact rfl; exact rfl; exact rfl; (first | (with_reducible rfl) | (exact sz1 _ _) | (exact sz2 _ _ _) | (exact sz3 _ _ _ _)); exact rfl; exact qbC; exact rfl; simp [Value.oneCell'])
  | (apply qau 52; exact rfl; exact rfl; exact rfl; assumption; exact qaF; exact rfl; exact qap)
  | fail)
 refine (HC.out _ HS.out.b).mono ?_
 generalize ((w.alloc (.cells (rwDl h) 54)).alloc (.cells rzDl 54)) = V0 at *
 rintro e w1 ⟨⟨h6, rfl, ht6, hn6⟩, hb⟩
 have HB1 := Lib.hid hb
 have HSZ := Lib.hid HS.out.s
 replace HS := Lib.hid (HS.out.call hb)
 have hth : w1.there w.heap.size 4 16 := qbT HS.out.c _ _ (Nat.le_refl _)
 have hF := qaB w1 w.heap.size 4 (qar h6)
 have gZ : (w1.setCells w.heap.size 4 (qar h6)).heap[w.heap.size + 1]? = some (.cells rzDl 54 (0, 0)) := (hF.block _ (by have := HS.out.s; omega) (by simp)).trans HS.out.z
 have hp : (w1.setCells w.heap.size 4 (qar h6)).rangeAt w.heap.size 0 [.int .i64 h.se, .int .i32 h.xi, .int .i64 h.zx, .int .i64 h.ti] := World.rangeAt_setCells_apart (qal (pre := []) (mid := [.int .i64 h.se, .int .i32 h.xi, .int .i64 h.zx, .int .i64 h.ti]) (post := [.int .i32 h.t.n.ty, .string h.t.n.path, slV h.t.d, slV h.t.a, .int .i64 h.t.n.ow, .int .i32 h.t.n.ve, .int .i32 h.t.n.cr, .bool h.t.n.qh, .int .i64 h.t.n.qc, .int .i64 h.t.n.qb, .int .i64 h.t.n.si, .int .i32 h.t.n.st, slV h.t.i, slV h.t.p, .int .i32 h.t.n.co, slV h.t.s]) HS.out.c rfl rfl) _ _ _ (.inr (.inl (by simp)))
 have hrr : (w1.setCells w.heap.size 4 (qar h6)).rangeAt w.heap.size 0 (qaU ⟨h.se, h.xi, h.zx, h.ti, h6⟩) := qca hp (World.rangeAt_setCells_same w1 w.heap.size 4 (qar h6) hth) rfl
 have ht7 : TxAt (w1.setCells w.heap.size 4 (qar h6)) (w.heap.size + 2 ≤ ·) h6 t.t := TrAt.fr kTxOk ht6 hF (fun b _ h => ⟨by have := HSZ.out; simp; omega, Nat.le_trans HSZ.out h⟩)
 have HN7 := Lib.hid (show TxNf _ (w.heap.size + 2 ≤ ·) h6 from hn6.fr hF (fun b _ h => ⟨by have := HSZ.out; simp; omega, Nat.le_trans HSZ.out h⟩))
 have HT7 := Lib.hid ht7; have HG := Lib.hid (And.intro (hF.below HS.out.b.size (by simp)) gZ)
 have HF := Lib.hid hF
 clear hn6 ht6 hb ht7 hp hF
 go_wp2_with (first
  | (apply qaW 52; exact rfl; exact rfl; exact rfl; exact rfl; assumption; exact qap; simp [Value.oneCell'])
  | (apply qau 54; exact rfl; exact rfl; exact rfl; assumption; exact qcn; exact rfl; exact qbC)
  | (apply qam 54 54; exact rfl; exact rfl; exact rfl; exact rfl; (first | assumption | (refine qaa ?_; assumption) | (exact qab _ _) | (exact qae _ _ _) | (exact qag _ _ _ _) | (exact qas _ _ _ _ _) | (exact qaa (qab _ _)) | (exact qaa (qae _ _ _)) | (exact qaa (qag _ _ _ _)) | (exact qaa (qaa (qab _ _))) | (exact qaa (qaa (qae _ _ _))) | (exact qaa (qaa (qaa (qab _ _))))); exact qbC; exact rfl; simp [Value.oneCell'])
  | fail)
 have hFr := qaS (w1.setCells w.heap.size 4 (qar h6)) (w.heap.size + 1) (qaU ⟨h.se, h.xi, h.zx, h.ti, h6⟩).toArray
 exact qaD rfl rfl (setRow_heap _ _ _ _ _ _ gZ) qcn rfl qbC rfl ⟨⟨⟨h.se, h.xi, h.zx, h.ti, h6⟩, rfl, ⟨HE.out, TrAt.fr kTxOk HT7.out hFr (fun b _ h => ⟨by simp; omega, by omega⟩)⟩, HN7.out.fr hFr (fun b _ h => ⟨by simp; omega, by omega⟩)⟩, below_setRow (HS.out.b.trans HG.out.1) (by omega) _⟩
open Go.RowKit Go.MapKept Go.Maps
def qol (t : PrT) (w : World) (e : Ending) (w' : World) : Prop := (∃ h', e = .returned (prV h') ∧ PrAt w' (w.heap.size ≤ ·) h' t ∧ PrNf w' (w.heap.size ≤ ·) h') ∧ Below w.heap.size w w'
theorem qkh (h : PrH) (t : PrT) (w : World) (R : Nat → Prop) (ht : PrAt w R h t) (hok : PrSm 1048576 t) : Calls Tryz.prog 65 #[prV h] w (qol t w) := by
 have HS := Lib.hid (CnSt.start w (rwPr h) rzPr 63)
 have HCd := Lib.hid (fun (W : World) (hW : Below w.heap.size w W) => qhJ h.d t.d W _ (DlAt.fr (R' := R) ht.1 (Fr.of_below (own := []) hW) (fun b _ h => ⟨by simp, h⟩)) hok.1)
 have HCr := Lib.hid (fun (W : World) (hW : Below w.heap.size w W) => qhT h.r t.r W _ (RpAt.fr (R' := R) ht.2 (Fr.of_below (own := []) hW) (fun b _ h => ⟨by simp, h⟩)) hok.2)
 clear ht hok
 go_enter Tryz.func65, Tryz.ntmps65
 go_wp2_with (first
  | (apply qai 63 63; exact rfl; exact rfl; exact rfl; (first | (with_reducible rfl) | (exact sz1 _ _) | (exact sz2 _ _ _) | (exact sz3 _ _ _ _)); exact rfl; exact qaI; exact rfl; simp [Value.oneCell'])
  | fail)
 generalize ((w.alloc (.cells (rwPr h) 63)).alloc (.cells rzPr 63)) = V at *
 replace HS := Lib.hid (HS.out.call (qaj V))
 have HSO := Lib.hid (fun (W : World) (hW : Below V.drew.heap.size V.drew W) => (show W.rangeAt w.heap.size 0 (qaU h.d) ∧ W.rangeAt w.heap.size 20 (qaX h.r) from ⟨qal (pre := []) (mid := qaU h.d) (post := qaX h.r) (HS.out.call hW).c rfl rfl, qal (pre := qaU h.d) (mid := qaX h.r) (post := []) (HS.out.call hW).c rfl rfl⟩))
 refine qaP (S := fun w' => w'.rangeAt w.heap.size 0 (qaU h.d) ∧ w'.rangeAt w.heap.size 20 (qaX h.r)) 7 (by kernel_rfl) (HSO.out _ (Below.refl _ _)) (fun hHeld => ?_)
 generalize V.drew = V0 at *
 refine qad (i := 0) (v := .pointer (some ⟨w.heap.size, 0, none⟩)) rfl (by kernel_rfl) (fun _ _ _ h => h) (Or.inl ⟨by rfl, by intro w hSw; clear hSw; go_simp⟩) (by assumption) ?_
 (try simp only [pT])
 refine qad (i := 1) (v := .agg (qaU h.d).toArray) rfl (by kernel_rfl) (fun _ _ _ h => h) (yieldsIf_load_mid (by rfl) 54 _ rfl w.heap.size 0 rfl (qaU h.d) _ (fun _ h => h.1) qcn rfl qbC) (by assumption) ?_
 (try simp only [pT])
 refine qad (i := 3) (v := .pointer (some ⟨w.heap.size, 20, none⟩)) rfl (by kernel_rfl) (fun _ _ _ h => h) (Or.inl ⟨by rfl, by intro w hSw; clear hSw; go_simp⟩) (by assumption) ?_
 (try simp only [pT])
 refine qad (i := 4) (v := .agg (qaX h.r).toArray) rfl (by kernel_rfl) (fun _ _ _ h => h) (yieldsIf_load_mid (by rfl) 61 _ rfl w.heap.size 20 rfl (qaX h.r) _ (fun _ h => h.2) qcA rfl qbM) (by assumption) ?_
 (try simp only [pT])
 refine qaq (i := 2) rfl (by kernel_rfl) (fun K hK => ?_)
 go_simp
 refine (HCd.out _ HS.out.b).mono ?_
 rintro e w1 ⟨⟨hd, rfl, hat, hnf⟩, hb⟩
 dsimp only
 have HD := Lib.hid (And.intro HS.out.s hat)
 have HDN := Lib.hid hnf; clear hnf
 replace HSO := Lib.hid (fun (W : World) (hW : Below w1.heap.size w1 W) => HSO.out W (hb.trans (hW.mono hb.size)))
 replace HS := Lib.hid (HS.out.call hb)
 replace hHeld := HSO.out _ (Below.refl _ _)
 refine hK.out _ _ hHeld ?_
 clear hK K hat hb
 (try simp only [pT])
 refine qaq (i := 5) rfl (by kernel_rfl) (fun K hK => ?_)
 go_simp
 refine (HCr.out _ HS.out.b).mono ?_
 rintro e w2 ⟨⟨hr, rfl, hat, hnf⟩, hb⟩
 dsimp only
 have HRR := Lib.hid (And.intro HS.out.s hat)
 have HRN := Lib.hid hnf; clear hnf
 have HB2 := Lib.hid hb
 replace HSO := Lib.hid (fun (W : World) (hW : Below w2.heap.size w2 W) => HSO.out W (hb.trans (hW.mono hb.size)))
 replace HS := Lib.hid (HS.out.call hb)
 refine hK.out _ _ (HSO.out _ (Below.refl _ _)) ?_
 clear hK K hat hb hHeld
 (try simp only [pT])
 refine qaq (i := 6) rfl (by kernel_rfl) (fun K hK => ?_)
 go_simp
 refine hK.out _ _ (HSO.out _ (Below.refl _ _)) ?_
 clear hK K
 (try simp only [pT])
 refine qaG (n := 7) (by kernel_rfl) ?_
 simp only [List.drop_succ_cons, List.drop_zero]
 have gZ := HS.out.z
 go_wp2_with (first
  | (apply qam 63 63; exact rfl; exact rfl; exact rfl; exact rfl; (first | assumption | (refine qaa ?_; assumption) | (exact qab _ _) | (exact qae _ _ _) | (exact qag _ _ _ _) | (exact qas _ _ _ _ _) | (exact qaa (qab _ _)) | (exact qaa (qae _ _ _)) | (exact qaa (qag _ _ _ _)) | (exact qaa (qaa (qab _ _))) | (exact qaa (qaa (qae _ _ _))) | (exact qaa (qaa (qaa (qab _ _))))); exact qaI; exact rfl; simp [Value.oneCell'])
  | fail)
 have hFr := qaS w2 (w.heap.size + 1) (qah ⟨hd, hr⟩).toArray
 exact qaD rfl rfl (setRow_heap _ _ _ _ _ _ gZ) qbq rfl qaI rfl ⟨⟨⟨hd, hr⟩, rfl, ⟨(HD.out.2.fr (R' := (w.heap.size + 2 ≤ ·)) (Fr.of_below (own := []) HB2.out) (fun b _ h => ⟨by simp, Nat.le_trans HD.out.1 h⟩)).fr hFr (fun b _ h => ⟨by simp; omega, by omega⟩), HRR.out.2.fr hFr (fun b _ h => ⟨by have := HRR.out.1; simp; omega, by have := HRR.out.1; omega⟩)⟩, ⟨(HDN.out.fr (R' := (w.heap.size + 2 ≤ ·)) (Fr.of_below (own := []) HB2.out) (fun b _ h => ⟨by simp, Nat.le_trans HD.out.1 h⟩)).fr hFr (fun b _ h => ⟨by simp; omega, by omega⟩), HRN.out.fr hFr (fun b _ h => ⟨by have := HRR.out.1; simp; omega, by have := HRR.out.1; omega⟩)⟩⟩, below_setRow HS.out.b (by omega) _⟩
open Go.RowKit Go.MapKept Go.Maps
def qon (t : PrT) (w : World) (e : Ending) (w' : World) : Prop := (∃ h', e = .returned (.tuple #[prV h', .bool true]) ∧ PrAt w' (w.heap.size ≤ ·) h' t ∧ PrNf w' (w.heap.size ≤ ·) h') ∧ Below w.heap.size w w'
theorem qno (bq : Nat) (x : QuX) (R : Nat → Prop) (st : QuT) (i : Nat) (w : World) (hq : QuAt w bq x R st) (hi : i < st.L.length) (hsm : PrSm 1048576 st.L[i]!) (hcap : x.cap ≤ 8192) : Calls Tryz.prog 37 #[.pointer (some ⟨bq, 0, none⟩), .int .i64 i] w (qon st.L[i]! w) := by
 have HG0 := Lib.hid (qab w (.cells rzPr 63))
 have HS0 := Lib.hid (sz1 w (.cells rzPr 63))
 have hb1 : Below w.heap.size w (w.alloc (.cells rzPr 63)) := (Below.refl _ w).alloc (Nat.le_refl _) _
 have HCL := Lib.hid (qcL bq x R st _ (hq.below hb1))
 have b0 : decide ((i : Int) < 0) = false := decide_eq_false (by omega)
 have b1 : decide (st.L.length ≤ i) = false := decide_eq_false (by omega)
 have hle := hq.ring.le
 obtain ⟨hA, hf, -⟩ := hq.ring.full (by omega)
 have HCA := Lib.hid (fun q => by
  have h := qdu bq x.gr x.cap x.first i ((w.alloc (.cells rzPr 63)).drewN q) (by show (w.alloc (.cells rzPr 63)).cell? _ = _; rw [qaf (hq.below hb1).box, hA]; rfl) (by show (w.alloc (.cells rzPr 63)).cell? _ = _; rw [qaf (hq.below hb1).box]; rfl) hf (by omega) (by omega)
  exact h)
 obtain ⟨h, hr, hp⟩ := hq.ring.el i hi
 have HRG := Lib.hid (fun q => show (((w.alloc (.cells rzPr 63)).drewN q).drew).rangeAt x.gr (((x.first + i) % x.cap) * 45) (qah h) from qbf hr ((qac hb1 q).drew))
 have HCO := Lib.hid (fun (W : World) (hW : Below w.heap.size w W) => qkh h st.L[i]! W R (hp.fr (Fr.of_below (own := []) hW) (fun b _ hb => ⟨by simp, hb⟩)) hsm)
 have HB1 := Lib.hid hb1
 generalize st.L.length = n at *
 generalize st.L[i]! = t at *
 generalize (x.first + i) % x.cap = m at *
 clear hq hb1 hi hA hf hr hp hle
 go_enter Tryz.func37, Tryz.ntmps37
 go_wp2_with fail
 refine HCL.out.mono ?_
 rintro e w2 ⟨rfl, q, rfl⟩
 go_wp2_with fail
 refine (HCA.out q).mono ?_
 rintro e w2 ⟨rfl, rfl⟩
 have hrg := HRG.out q
 have HB2 := Lib.hid (show Below w.heap.size w ((w.alloc (.cells rzPr 63)).drewN q).drew from (qac HB1.out q).drew)
 have HG2 := Lib.hid (show ((w.alloc (.cells rzPr 63)).drewN q).drew.heap[w.heap.size]? = some (.cells rzPr 63 (0, 0)) from HG0.out)
 have HS2 := Lib.hid (show ((w.alloc (.cells rzPr 63)).drewN q).drew.heap.size = w.heap.size + 1 from HS0.out)
 generalize ((w.alloc (.cells rzPr 63)).drewN q).drew = W2 at *
 go_wp2_with (first
  | (apply qau 63; exact rfl; exact rfl; exact rfl; assumption; exact qbq; exact rfl; exact qaI)
  | fail)
 refine (HCO.out W2 HB2.out).mono ?_
 rintro e w3 ⟨⟨h3, rfl, hat, hnf⟩, hb3⟩
 have HNF := Lib.hid hnf; clear hnf
 have HAT := Lib.hid hat
 have hg3 := (hb3.block w.heap.size (by have := HS2.out; omega)).trans HG2.out
 have HB3 := Lib.hid (HB2.out.trans (hb3.mono HB2.out.size))
 have HG3 := Lib.hid hg3
 clear hat hb3 hrg
 go_wp2_with (first
  | (apply qam 63 63; exact rfl; exact rfl; exact rfl; exact rfl; (first | assumption | (refine qaa ?_; assumption) | (exact qab _ _) | (exact qae _ _ _) | (exact qag _ _ _ _) | (exact qas _ _ _ _ _) | (exact qaa (qab _ _)) | (exact qaa (qae _ _ _)) | (exact qaa (qag _ _ _ _)) | (exact qaa (qaa (qab _ _))) | (exact qaa (qaa (qae _ _ _))) | (exact qaa (qaa (qaa (qab _ _))))); exact qaI; exact rfl; (first | exact qbo _ | simp [Value.oneCell']))
  | fail)
 have hFr := qaS w3 w.heap.size (qah h3).toArray
 exact qbu rfl rfl rfl (setRow_heap _ _ _ _ _ _ HG3.out) qbq rfl qaI rfl ⟨⟨h3, rfl, HAT.out.fr hFr (fun b _ h => ⟨by have := HS2.out; simp; omega, by have := HS2.out; omega⟩), HNF.out.fr hFr (fun b _ h => ⟨by have := HS2.out; simp; omega, by have := HS2.out; omega⟩)⟩, below_setRow HB3.out (Nat.le_refl _) _⟩

end Go.Proofs.YtbpmmmnphpkdjaaGreatDoor

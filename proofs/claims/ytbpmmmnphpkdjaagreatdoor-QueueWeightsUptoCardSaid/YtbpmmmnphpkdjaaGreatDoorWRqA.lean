/- The law's majority. Condition: at most 2^20 numbers. A queue of equal voters: what is committed has a majority. -/
import Derived.Test.YtbpmmmnphpkdjaaGreatDoorWRfD
import Derived.Test.YtbpmmmnphpkdjaaGreatDoorWVtq
import Derived.Deep.Onto
namespace Go.Proofs.YtbpmmmnphpkdjaaGreatDoor
set_option linter.unusedSimpArgs false
set_option maxRecDepth 100000
set_option maxHeartbeats 20000000
open Go.RowKit Go.MapKept Go.Maps
section
variable {lo : Nat} {w w' : World} {A : Option Addr} {n c : Nat} {l : List Int}
end
open Go.RowKit Go.MapKept Go.Maps
section
variable {w0 w w' : World} {bq gk : Nat} {st st' : QuT} {x : QuX} {R : Nat → Prop} {A : Option Addr} {n c : Nat} {l ks : List Int}
end
open Go.RowKit Go.MapKept Go.Maps
theorem qhM (l : List Int) (i : Nat) (h : i < l.length) : l.set i l[i]! = l := by
 rw [getElem!_pos l i h]
 exact List.set_getElem_self h
section
variable {w0 w w' : World} {bq gk : Nat} {st st' : QuT} {x : QuX} {R : Nat → Prop} {A : Option Addr} {n c : Nat} {l ks : List Int}
theorem qld (ks : List Int) (i : Nat) (z : Int) : ((ks.map (Value.int .i64)).toArray).setIfInBounds i (.int .i64 z) = ((ks.set i z).map (Value.int .i64)).toArray := by simp [List.map_set]
end
open Go.RowKit Go.MapKept Go.Maps
/-- how a queue of the document's lies: its list, its voters' header, the block of what they have -/
structure RqX where
 (A : Option Addr) (c : Nat) (wh : SlC) (gv : Nat) (Hs : List PrH)
structure RqAt (w : World) (lo br : Nat) (y : RqX) (Q : Nat → Prop) (st : QuT) : Prop where
 box : w.heap[br]? = some (.cells #[.int .i64 st.bound, slV y.wh, .slice (some ⟨y.gv, 0, none⟩) st.acked.length st.acked.length, .slice y.A st.L.length y.c, .int .i64 st.last, .int .i64 st.committed] 92 (0, 0))
 who : SlR w Q encVt 2 y.wh st.vs
 vot : w.heap[y.gv]? = some (.cells (st.acked.map (Value.int .i64)).toArray 2 (0, 0))
 row : SlR w Q qah 45 (y.A, st.L.length, y.c) y.Hs
 els : ∀ j, j < st.L.length → PrAt w (· < lo) y.Hs[j]! st.L[j]!
 ne : br ≠ y.gv ∧ ¬ Q br ∧ ¬ Q y.gv
 ge : lo ≤ br ∧ lo ≤ y.gv ∧ ∀ b, Q b → lo ≤ b
 lt : ∀ b, Q b → b < w.heap.size
section
variable {w w' : World} {lo br : Nat} {y : RqX} {Q : Nat → Prop} {st : QuT}
theorem RqAt.bl (H : RqAt w lo br y Q st) : br < w.heap.size := (Array.getElem?_eq_some_iff.1 H.box).1
theorem RqAt.vl (H : RqAt w lo br y Q st) : y.gv < w.heap.size := (Array.getElem?_eq_some_iff.1 H.vot).1
theorem RqAt.fr {own : List Nat} (H : RqAt w lo br y Q st) (hf : Fr own w w') (hn : ∀ g ∈ own, g ≠ br ∧ g ≠ y.gv ∧ ¬ Q g ∧ lo ≤ g) : RqAt w' lo br y Q st :=
 ⟨(hf.block _ H.bl (fun h => (hn _ h).1 rfl)).trans H.box, H.who.fr hf (fun b _ hb => ⟨fun h => (hn b h).2.2.1 hb, hb⟩) (fun _ => by simp [encVt]), (hf.block _ H.vl (fun h => (hn _ h).2.1 rfl)).trans H.vot,
  H.row.fr hf (fun b _ hb => ⟨fun h => (hn b h).2.2.1 hb, hb⟩) (fun _ => by rw [qbB]; decide), fun j hj => (H.els j hj).fr hf (fun b _ hb => ⟨fun h => by have := (hn b h).2.2.2; omega, hb⟩), H.ne, H.ge, fun b hb => Nat.lt_of_lt_of_le (H.lt b hb) hf.size⟩
theorem RqAt.below (H : RqAt w lo br y Q st) (hb : Below w.heap.size w w') : RqAt w' lo br y Q st := H.fr (Fr.of_below (own := []) hb) (fun g hg => by cases hg)
/-- what a voter has -/
theorem RqAt.vc (H : RqAt w lo br y Q st) {i : Nat} (hi : i < st.acked.length) : w.cell? ⟨y.gv, i, none⟩ = some (.int .i64 st.acked[i]!) := by
 rw [qaf H.vot]; simp [hi]
theorem RqAt.vf (H : RqAt w lo br y Q st) (i : Nat) : w.frozen? ⟨y.gv, i, none⟩ = false := by simp [World.frozen?, H.vot]
/-- a proposal's zxid in the list -/
theorem RqAt.zc (H : RqAt w lo br y Q st) {j : Nat} (hj : j < st.L.length) : ∃ b off, y.A = some ⟨b, off, none⟩ ∧ w.cell? ⟨b, off + j * 45 + 2, none⟩ = some (.int .i64 st.L[j]!.d.zx) := by
 obtain ⟨b, off, e, _, hc⟩ := H.row.2.2 (show 0 < st.L.length by omega)
 refine ⟨b, off, e, ?_⟩
 have h1 := hc j hj 2 (.int .i64 y.Hs[j]!.d.zx) rfl
 rw [h1, (H.els j hj).1.1.2.2.1]
end
def RdyB (b : Bool) (w : World) (e : Ending) (w' : World) : Prop := e = .returned (.bool b) ∧ Below w.heap.size w w'
theorem RdyB.mk {b x : Bool} {w w' : World} (h : b = x) (hb : Below w.heap.size w w') : RdyB b w (.returned (.bool x)) w' := ⟨by rw [h], hb⟩
theorem qgV (z : Int) (w : World) (lo br : Nat) (y : RqX) (Q : Nat → Prop) (st : QuT) (H : RqAt w lo br y Q st) (h9 : st.acked.length ≤ 9) (hv9 : st.vs.length ≤ 1048576) :
  Calls Tryz.prog 79 #[.pointer (some ⟨br, 0, none⟩), .int .i64 z] w (RdyB (qcm st.vs st.acked z) w) := by
 have HH := Lib.hid H
 have hwl := H.who.len
 have HQV := Lib.hid (fun (W : World) (A : Option Addr) (n c : Nat) (hv : List Int) (hb : Below w.heap.size w W) (hs : Sl W W.heap.size encN 1 A n hv) (hn : n ≤ 9) => qgQ y.wh.1 y.wh.2.1 y.wh.2.2 st.vs A n c hv W (((HH.out.below hb).who).sl (fun _ => by simp [encVt])) hs (by omega) (by omega))
 have HB2 := Lib.hid (show ∀ W : World, Below w.heap.size w W → W.cell? ⟨br, 2, none⟩ = some (.slice (some ⟨y.gv, 0, none⟩) st.acked.length st.acked.length) from fun W hb => by rw [qaf (HH.out.below hb).box]; rfl)
 have HB1 := Lib.hid (show ∀ W : World, Below w.heap.size w W → W.cell? ⟨br, 1, none⟩ = some (slV y.wh) from fun W hb => by rw [qaf (HH.out.below hb).box]; rfl)
 have HVC := Lib.hid (fun (W : World) (hb : Below w.heap.size w W) (i : Nat) (hi : i < st.acked.length) => (HH.out.below hb).vc hi)
 have HRC := Lib.hid (show qcm st.vs st.acked z = (decide (st.acked.length = 0) || chB st.vs st.acked z) from rfl)
 generalize hN : st.acked.length = n at *
 have HN := Lib.hid hN
 clear hN H HH hwl
 go_enter Tryz.func79, Tryz.ntmps79
 go_wp2_with fail
 go_loopw [5, 6] (fun v i wr => ∃ j : Nat, i = .int .i64 ↑j ∧ j ≤ n ∧ HasR w.heap.size (hasF st.acked z j) v wr ∧ Below w.heap.size w wr) (fun _ i _ => n - (intOf i).toNat)
 case atStart => exact ⟨0, rfl, Nat.zero_le _, ⟨none, 0, rfl, ⟨rfl, .inl ⟨rfl, rfl⟩⟩⟩, Below.refl _ _⟩
 case round =>
 obtain ⟨j, rfl, hj, ⟨A, c, rfl, hown⟩, hb2⟩ := hrel
 have HOW := Lib.hid hown; have HBB := Lib.hid hb2; clear hown hb2
 have x2 := HB2.out wr HBB.out
 by_cases hlj : j < n
 ·have hxj : wr.cell? ⟨y.gv, j, none⟩ = some (.int .i64 st.acked[j]!) := HVC.out wr HBB.out j hlj
  have HSU := Lib.hid (qgG st.acked z j)
  have HLE := Lib.hid (qeS st.acked z j)
  have hji : (j : Int) < (n : Int) := by omega
  have hj0 : (0 : Int) ≤ (j : Int) := by omega
  generalize hasF st.acked z j = hv at *
  generalize st.acked[j]! = yy at *
  by_cases hy : z ≤ yy
  ·have HS1 := Lib.hid (show hasF st.acked z (j + 1) = hv ++ [(j : Int)] by rw [HSU.out, if_pos hy])
   have by_ : decide (z ≤ yy) = true := decide_eq_true hy
   clear hy HSU
   have HB3 := Lib.hid ((Below.refl _ wr).alloc (Nat.le_refl _) (.cells #[.int .i64 (j : Int)] 3))
   have HO3 := Lib.hid (qcb HOW.out HB3.out)
   have HSL := Lib.hid (show Sl (wr.alloc (.cells #[.int .i64 (j : Int)] 3)) (wr.alloc (.cells #[.int .i64 (j : Int)] 3)).heap.size encN 1 (some ⟨wr.heap.size, 0, none⟩) 1 [(j : Int)] from ⟨rfl, fun _ => ⟨wr.heap.size, 0, rfl, by rw [sz1]; omega, fun i hi a u hu => by
    have hi0 : i = 0 := by omega
    subst hi0
    rw [qaf (qab wr _)]
    match a, hu with
    | 0, hu => exact hu⟩⟩)
   go_wp2_with (at_builtin; refine qdL qmO rfl _ _ rfl w.heap.size A hv.length c hv ?hx1 HO3.out (some ⟨wr.heap.size, 0, none⟩) 1 1 [(j : Int)] ?hy1 HSL.out (fun e => by cases e) (by have := HLE.out; omega) (Nat.le_trans HBB.out.size HB3.out.size) ?hk1)
   (try case hx1 => rfl)
   (try case hy1 => rfl)
   case hk1 =>
    intro A8 c8 w8 hv8 hb8
    have HB8 := Lib.hid hb8; have HV8 := Lib.hid hv8
    clear hv8 hb8
    go_wp2_with fail
    go_roundw
    case rel =>
     refine ⟨j + 1, by go_num, by omega, ?_, (HBB.out.trans (HB3.out.mono HBB.out.size)).trans HB8.out⟩
     rw [HS1.out]
     exact ⟨A8, c8, by simp, by rw [List.length_append, List.length_singleton, List.flatMap_append]; simpa using HV8.out⟩
    case measure => simp [intOf]; omega
  ·have HS1 := Lib.hid (show hasF st.acked z (j + 1) = hv by rw [HSU.out, if_neg hy])
   have by_ : decide (z ≤ yy) = false := decide_eq_false hy
   clear hy HSU
   go_wp2_with fail
   go_roundw
   case rel => exact ⟨j + 1, by go_num, by omega, by rw [HS1.out]; exact ⟨A, c, rfl, HOW.out⟩, HBB.out⟩
   case measure => simp [intOf]; omega
 ·obtain rfl : j = n := by omega
  by_cases h0 : j = 0
  ·have b0 : ((j : Int) == 0) = true := by rw [h0]; rfl
   have HR := Lib.hid (show qcm st.vs st.acked z = true by rw [HRC.out, h0]; rfl)
   clear h0
   go_wp2_with fail
   go_ret
   exact RdyB.mk HR.out HBB.out
  ·have b0 : ((j : Int) == 0) = false := beq_eq_false_iff_ne.2 (by omega)
   have hfull : hasF st.acked z j = hasI st.acked z := by rw [← HN.out]; exact qhw _ _
   rw [hfull] at HOW
   have hlen : (hasF st.acked z j).length = (hasI st.acked z).length := by rw [hfull]
   have hle9 := qeS st.acked z j
   rw [hlen] at hle9
   have HCL := Lib.hid (HQV.out wr A (hasI st.acked z).length c (hasI st.acked z) HBB.out ((qbD HOW.out (fun _ => rfl) rfl).sl (fun _ => by simp [encN])) (by omega))
   have x1 := HB1.out wr HBB.out
   have HR := Lib.hid (show qcm st.vs st.acked z = qbd st.vs (hasI st.acked z) by rw [HRC.out, decide_eq_false h0]; rfl)
   rw [hlen]
   clear hfull hlen hle9 HOW h0
   generalize hasI st.acked z = hz2 at *
   go_wp2_with fail
   refine HCL.out.mono ?_
   rintro e w5 ⟨rfl, hb5⟩
   have HB5 := Lib.hid (HBB.out.trans (hb5.mono HBB.out.size)); clear hb5
   generalize qbd st.vs hz2 = qb at *
   go_wp2_with fail
   go_ret
   exact RdyB.mk HR.out HB5.out
theorem qgX (vs : List VtV) (ak zs : List Int) : ∀ k, k ≤ zs.length → (∀ j, j < k → qcm vs ak zs[j]! = true) → (k = zs.length ∨ (k < zs.length ∧ qcm vs ak zs[k]! = false)) → qdy vs ak zs = k := by
 unfold qdy
 induction zs with
 | nil => intro k hk _ _; have : k = 0 := by simpa using hk
          subst this; rfl
 | cons x r ih =>
  intro k hk hall hend
  cases k with
  | zero =>
   rcases hend with h | ⟨_, h⟩
   ·simp at h
   ·have h' : qcm vs ak x = false := h
    rw [List.takeWhile_cons, h']; rfl
  | succ k =>
   have h0 : qcm vs ak x = true := hall 0 (by omega)
   rw [List.takeWhile_cons, h0]
   have := ih k (by simpa using hk) (fun j hj => by have := hall (j + 1) (by omega); simpa using this) (by
    rcases hend with h | ⟨h1, h2⟩
    ·exact .inl (by simpa using h)
    ·exact .inr ⟨by simpa using h1, by simpa using h2⟩)
   simp [this]
theorem qdS (L : List PrT) (k : Nat) (hk : k < L.length) : (zxs L)[k]! = L[k]!.d.zx := by
 unfold zxs
 rw [getElem!_pos _ k (by simpa using hk), List.getElem_map, getElem!_pos L k hk]
theorem qns {st : QuT} (I : QuInv st) : rdN st = qdy st.vs st.acked (zxs st.L) :=
 qkF fun z hz => ⟨(I.z1 z hz).1, (I.z1 z hz).2.2⟩
theorem qcr (w : World) (lo br : Nat) (y : RqX) (Q : Nat → Prop) (st : QuT) (H : RqAt w lo br y Q st) (I : QuInv st) (hv9 : st.vs.length ≤ 1048576) :
  Calls Tryz.prog 32 #[.pointer (some ⟨br, 0, none⟩)] w (ChsP (rdN st) w) := by
 have HH := Lib.hid H
 have HCH := Lib.hid (fun (W : World) (hW : Below w.heap.size w W) (z : Int) => qgV z W lo br y Q st (HH.out.below hW) I.a9 hv9)
 have HB3 := Lib.hid (show ∀ W : World, Below w.heap.size w W → W.cell? ⟨br, 3, none⟩ = some (.slice y.A st.L.length y.c) from fun W hb => by rw [qaf (HH.out.below hb).box]; rfl)
 have HZC := Lib.hid (fun (W : World) (hW : Below w.heap.size w W) (j : Nat) (hj : j < st.L.length) => (HH.out.below hW).zc hj)
 have HRR := Lib.hid (fun k hk h1 h2 => (qns I).trans (qgX st.vs st.acked (zxs st.L) k hk h1 h2))
 have HNT := Lib.hid (fun k (hk : k < st.L.length) => qdS st.L k hk)
 have HZL := Lib.hid (qcv st.L)
 have hl4 := I.l4
 generalize hN : st.L.length = n at *
 clear H HH I hN
 go_enter Tryz.func32, Tryz.ntmps32
 go_wp2_with fail
 go_loopw [3] (fun i wr => ∃ k : Nat, i = .int .i64 ↑k ∧ k ≤ n ∧ (∀ j, j < k → qcm st.vs st.acked (zxs st.L)[j]! = true) ∧ Below w.heap.size w wr) (fun i _ => n - (intOf i).toNat)
 case atStart => exact ⟨0, rfl, Nat.zero_le _, fun j hj => absurd hj (by omega), Below.refl _ _⟩
 case round =>
 obtain ⟨k, rfl, hk, hall, hb⟩ := hrel
 have HALL := Lib.hid hall; have HB := Lib.hid hb; clear hall hb
 have x3 := HB3.out wr HB.out
 by_cases hlt : k < n
 ·obtain ⟨b, off, eA, hz⟩ := HZC.out wr HB.out k hlt
  rw [eA] at x3
  have HCC := Lib.hid (HCH.out wr HB.out st.L[k]!.d.zx)
  have hnt := HNT.out k hlt
  have hki : (k : Int) < (n : Int) := by omega
  have hk0 : (0 : Int) ≤ (k : Int) := by omega
  generalize st.L[k]!.d.zx = z at *
  have HNK := Lib.hid hnt
  clear eA hnt
  cases hc : qcm st.vs st.acked z with
  | true =>
   rw [hc] at HCC
   have HN := Lib.hid (show ∀ j, j < k + 1 → qcm st.vs st.acked (zxs st.L)[j]! = true from fun j hj => by
    rcases Nat.lt_succ_iff_lt_or_eq.1 hj with h3 | rfl
    ·exact HALL.out j h3
    ·rw [HNK.out]; exact hc)
   clear hc
   go_wp2_with fail
   refine HCC.out.mono ?_
   rintro e w5 ⟨rfl, hb5⟩
   have HB5 := Lib.hid (HB.out.trans (hb5.mono HB.out.size)); clear hb5 x3 hz
   go_wp2_with fail
   go_roundw
   case rel => exact ⟨k + 1, by go_num, by omega, HN.out, HB5.out⟩
   case measure => simp [intOf]; omega
  | false =>
   rw [hc] at HCC
   have HN := Lib.hid (HRR.out k (by rw [HZL.out]; omega) HALL.out (.inr ⟨by rw [HZL.out]; exact hlt, by rw [HNK.out]; exact hc⟩))
   clear hc
   go_wp2_with fail
   refine HCC.out.mono ?_
   rintro e w5 ⟨rfl, hb5⟩
   have HB5 := Lib.hid (HB.out.trans (hb5.mono HB.out.size)); clear hb5 x3 hz
   go_wp2_with fail
   go_ret
   exact ChsP.mk (by rw [HN.out]) HB5.out
 ·obtain rfl : k = n := by omega
  have HN := Lib.hid (HRR.out k (by rw [HZL.out]; exact Nat.le_refl _) HALL.out (.inl HZL.out.symm))
  go_wp2_with fail
  go_ret
  exact ChsP.mk (by rw [HN.out]) HB.out
end Go.Proofs.YtbpmmmnphpkdjaaGreatDoor

/- The walks of the document's Ack and Clear. Condition: as at Ready. The walk of the document's Clear. Condition: at most 9 voters. -/
import Derived.Test.YtbpmmmnphpkdjaaGreatDoorWRqA
namespace Go.Proofs.YtbpmmmnphpkdjaaGreatDoor
set_option linter.unusedSimpArgs false
set_option maxRecDepth 100000
set_option maxHeartbeats 20000000
open Go.RowKit Go.MapKept Go.Maps
section
variable {w w' : World} {lo br : Nat} {y : RqX} {Q : Nat → Prop} {st : QuT}
/-- a voter has more -/
theorem RqAt.setV (H : RqAt w lo br y Q st) (i : Nat) (z : Int) : RqAt (w.setCell ⟨y.gv, i, none⟩ (.int .i64 z)) lo br y Q { st with acked := st.acked.set i z } := by
 have hf := qaE w y.gv i (.int .i64 z)
 have hQ : ∀ b, Q b → b ∉ [y.gv] := fun b hb => by rw [List.mem_singleton]; rintro rfl; exact H.ne.2.2 hb
 exact ⟨by rw [hf.block _ H.bl (by rw [List.mem_singleton]; exact H.ne.1), H.box]; simp, H.who.fr hf (fun b _ hb => ⟨hQ b hb, hb⟩) (fun _ => by simp [encVt]), (qaZ H.vot _).trans (by rw [qld]), H.row.fr hf (fun b _ hb => ⟨hQ b hb, hb⟩) (fun _ => by rw [qbB]; decide),
  fun j hj => (H.els j hj).fr hf (fun b _ hb => ⟨by rw [List.mem_singleton]; have := H.ge.2.1; omega, hb⟩), H.ne, H.ge, fun b hb => Nat.lt_of_lt_of_le (H.lt b hb) hf.size⟩
/-- what a call leaves -/
def RqStep (lo br : Nat) (y : RqX) (Q : Nat → Prop) (st' : QuT) (w w' : World) : Prop :=
 (∃ y' Q', RqAt w' lo br y' Q' st' ∧ y'.gv = y.gv ∧ ∀ b, Q' b → Q b ∨ w.heap.size ≤ b) ∧ Fr [br, y.gv] w w'
theorem RqStep.same (H : RqAt w lo br y Q st) (hb : Below w.heap.size w w') : RqStep lo br y Q st w w' := ⟨⟨y, Q, H.below hb, rfl, fun _ h => .inl h⟩, Fr.of_below hb⟩
end
def qmP (lo br : Nat) (y : RqX) (Q : Nat → Prop) (st : QuT) (v z : Int) (w : World) (e : Ending) (w' : World) : Prop :=
 e = .returned (.tuple #[.int .i64 ((rdN (ackT st v z) : Int) - rdN st), .int .i64 (ackC st v z)]) ∧ RqStep lo br y Q (ackT st v z) w w'
theorem qjl (v z : Int) (w : World) (lo br : Nat) (y : RqX) (Q : Nat → Prop) (st : QuT) (H : RqAt w lo br y Q st) (I : QuInv st) (hv9 : st.vs.length ≤ 1048576) :
  Calls Tryz.prog 75 #[.pointer (some ⟨br, 0, none⟩), .int .i64 v, .int .i64 z] w (qmP lo br y Q st v z w) := by
 have c2 : w.cell? ⟨br, 2, none⟩ = some (.slice (some ⟨y.gv, 0, none⟩) st.acked.length st.acked.length) := by rw [qaf H.box]; rfl
 have c4 : w.cell? ⟨br, 4, none⟩ = some (.int .i64 st.last) := by rw [qaf H.box]; rfl
 by_cases hin : 0 ≤ v ∧ v < st.acked.length ∧ 0 ≤ z ∧ z ≤ st.last
 ·obtain ⟨k, rfl⟩ : ∃ k : Nat, v = (k : Int) := ⟨v.toNat, by omega⟩
  have e1 : ackT st k z = ackS st k z := by unfold ackT; rw [if_pos hin, Int.toNat_natCast]
  have e2 : ackC st k z = 0 := if_pos hin
  have hk : k < st.acked.length := by omega
  have b1 : decide ((k : Int) < 0) = false := decide_eq_false (by omega)
  have b2 : decide (st.acked.length ≤ k) = false := decide_eq_false (by omega)
  have b3 : decide (z < 0) = false := decide_eq_false (by omega)
  have b4 : decide (st.last < z) = false := decide_eq_false (by omega)
  have HH := Lib.hid H
  have HI2 := Lib.hid (qhi I k z hin.2.2.2)
  have HR1 := Lib.hid (qcr w lo br y Q st H I hv9)
  have HR2 := Lib.hid (fun (W : World) (hW : RqAt W lo br y Q (ackS st k z)) => qcr W lo br y Q (ackS st k z) hW HI2.out hv9)
  have HL1 := Lib.hid (show rdN st ≤ 4096 from Nat.le_trans (qdj st) I.l4)
  have HL2 := Lib.hid (show rdN (ackS st k z) ≤ 4096 from Nat.le_trans (qdj _) HI2.out.l4)
  have HSA := Lib.hid (show ackS st k z = { st with acked := st.acked.set k (max st.acked[k]! z) } from rfl)
  have HSE := Lib.hid (qhM st.acked k hk)
  have HE := Lib.hid (And.intro e1 e2)
  have hw : IntKind.i64.wrap ((rdN (ackS st k z) : Int) - rdN st) = (rdN (ackS st k z) : Int) - rdN st := by rw [IntKind.wrap_i64]; have := HL1.out; have := HL2.out; omega
  have hki : (k : Int) < (st.acked.length : Int) := by omega
  have hk0 : (0 : Int) ≤ (k : Int) := by omega
  clear H I hin e1 e2
  go_enter Tryz.func75, Tryz.ntmps75
  go_wp2_with fail
  refine HR1.out.mono ?_
  rintro e w2 ⟨rfl, hb2⟩
  have HB2 := Lib.hid hb2
  have HH2 := Lib.hid (HH.out.below hb2)
  have d2 : w2.cell? ⟨br, 2, none⟩ = some (.slice (some ⟨y.gv, 0, none⟩) st.acked.length st.acked.length) := by rw [qaf HH2.out.box]; rfl
  have dv := HH2.out.vc hk
  have df := HH2.out.vf k
  clear hb2 c2 c4 b1 b2 b3 b4 HR1
  generalize hY : st.acked[k]! = yy at *
  by_cases hgt : yy < z
  ·have t1 : decide (yy < z) = true := decide_eq_true hgt
   have HQA := Lib.hid (show RqAt (w2.setCell ⟨y.gv, k, none⟩ (.int .i64 z)) lo br y Q (ackS st k z) from by
    have h := HH2.out.setV k z
    rw [HSA.out, show max yy z = z by omega]; exact h)
   have HFR := Lib.hid ((Fr.of_below (own := [br, y.gv]) HB2.out).set (show y.gv ∈ [br, y.gv] by simp) k (.int .i64 z))
   clear hgt hY hk HSA HSE HH2
   go_wp2_with fail
   refine (HR2.out _ HQA.out).mono ?_
   rintro e w5 ⟨rfl, hb5⟩
   have HB5 := Lib.hid hb5; clear hb5
   go_wp2_with fail
   go_ret2
   refine ⟨by rw [HE.out.1, HE.out.2]; rfl, ?_⟩
   rw [HE.out.1]
   exact ⟨⟨y, Q, HQA.out.below HB5.out, rfl, fun _ h => .inl h⟩, HFR.out.trans (Fr.of_below (own := []) HB5.out) (by simp)⟩
  ·have t1 : decide (yy < z) = false := decide_eq_false hgt
   have HQA := Lib.hid (show RqAt w2 lo br y Q (ackS st k z) from by
    rw [HSA.out, show max yy z = yy by omega, HSE.out]; exact HH2.out)
   have HFR := Lib.hid (Fr.of_below (own := [br, y.gv]) HB2.out)
   clear hgt hY hk HSA HSE HH2
   go_wp2_with fail
   refine (HR2.out _ HQA.out).mono ?_
   rintro e w5 ⟨rfl, hb5⟩
   have HB5 := Lib.hid hb5; clear hb5
   go_wp2_with fail
   go_ret2
   refine ⟨by rw [HE.out.1, HE.out.2]; rfl, ?_⟩
   rw [HE.out.1]
   exact ⟨⟨y, Q, HQA.out.below HB5.out, rfl, fun _ h => .inl h⟩, HFR.out.trans (Fr.of_below (own := []) HB5.out) (by simp)⟩
 ·have e1 : ackT st v z = st := if_neg hin
  have e2 : ackC st v z = 1 := if_neg hin
  have HF := Lib.hid (show qmP lo br y Q st v z w (.returned (.tuple #[.int .i64 0, .int .i64 1])) w from ⟨by rw [e1, e2, Int.sub_self], by rw [e1]; exact RqStep.same H (Below.refl _ _)⟩)
  clear H I e1 e2
  generalize st.acked.length = n at *
  generalize st.last = la at *
  by_cases h1 : v < 0
  ·have b1 : decide (v < 0) = true := decide_eq_true h1
   clear hin h1
   go_enter Tryz.func75, Tryz.ntmps75
   go_wp2_with fail
   go_ret2
   exact HF.out
  ·have b1 : decide (v < 0) = false := decide_eq_false h1
   by_cases h2 : (n : Int) ≤ v
   ·have b2 : decide ((n : Int) ≤ v) = true := decide_eq_true h2
    clear hin h1 h2
    go_enter Tryz.func75, Tryz.ntmps75
    go_wp2_with fail
    go_ret2
    exact HF.out
   ·have b2 : decide ((n : Int) ≤ v) = false := decide_eq_false h2
    by_cases h3 : z < 0
    ·have b3 : decide (z < 0) = true := decide_eq_true h3
     clear hin h1 h2 h3
     go_enter Tryz.func75, Tryz.ntmps75
     go_wp2_with fail
     go_ret2
     exact HF.out
    ·have b3 : decide (z < 0) = false := decide_eq_false h3
     have b4 : decide (la < z) = true := decide_eq_true (by omega)
     clear hin h1 h2 h3
     go_enter Tryz.func75, Tryz.ntmps75
     go_wp2_with fail
     go_ret2
     exact HF.out
open Go.RowKit Go.MapKept Go.Maps
section
variable {w w' : World} {lo br : Nat} {y : RqX} {Q : Nat → Prop} {st : QuT}
/-- its own two blocks are written: the list and its proposals are as they were -/
theorem RqAt.rowK (H : RqAt w lo br y Q st) (hf : Fr [br, y.gv] w w') : SlR w' Q qah 45 (y.A, st.L.length, y.c) y.Hs ∧ ∀ j, j < st.L.length → PrAt w' (· < lo) y.Hs[j]! st.L[j]! := by
 have hQ : ∀ b, Q b → b ∉ [br, y.gv] := fun b hb => by
  simp only [List.mem_cons, List.not_mem_nil, or_false]
  rintro (rfl | rfl)
  ·exact H.ne.2.1 hb
  ·exact H.ne.2.2 hb
 exact ⟨H.row.fr hf (fun b _ hb => ⟨hQ b hb, hb⟩) (fun _ => by rw [qbB]; decide), fun j hj => (H.els j hj).fr hf (fun b _ hb => ⟨by simp only [List.mem_cons, List.not_mem_nil, or_false]; have h1 := H.ge.1; have h2 := H.ge.2.1; omega, hb⟩)⟩
theorem RqAt.cleared (H : RqAt w lo br y Q st) : RqAt ((w.setCell ⟨br, 3, none⟩ (.slice none 0 0)).setCell ⟨br, 4, none⟩ (.int .i64 st.committed)) lo br { y with A := none, c := 0, Hs := [] } Q { st with L := [], last := st.committed } := by
 have hf : Fr [br] w ((w.setCell ⟨br, 3, none⟩ (.slice none 0 0)).setCell ⟨br, 4, none⟩ (.int .i64 st.committed)) := (qaE w br 3 _).trans (qaE _ br 4 _) (by simp)
 have hQ : ∀ b, Q b → b ∉ [br] := fun b hb => by rw [List.mem_singleton]; rintro rfl; exact H.ne.2.1 hb
 exact ⟨(qaZ (qaZ H.box _) _).trans (by simp), H.who.fr hf (fun b _ hb => ⟨hQ b hb, hb⟩) (fun _ => by simp [encVt]), (hf.block _ H.vl (by rw [List.mem_singleton]; exact fun e => H.ne.1 e.symm)).trans H.vot, SlR.nil_, fun j hj => absurd hj (by simp), H.ne, H.ge, fun b hb => Nat.lt_of_lt_of_le (H.lt b hb) hf.size⟩
end
def qoQ (lo br : Nat) (y : RqX) (Q : Nat → Prop) (st : QuT) (w : World) (e : Ending) (w' : World) : Prop :=
 e = .returned (.slice y.A st.L.length y.c) ∧ RqStep lo br y Q (qcx st) w w'
theorem qhQ (w : World) (lo br : Nat) (y : RqX) (Q : Nat → Prop) (st : QuT) (H : RqAt w lo br y Q st) (h9 : st.acked.length ≤ 9) :
  Calls Tryz.prog 77 #[.pointer (some ⟨br, 0, none⟩)] w (qoQ lo br y Q st w) := by
 have c3 : w.cell? ⟨br, 3, none⟩ = some (.slice y.A st.L.length y.c) := by rw [qaf H.box]; rfl
 have c4 : w.cell? ⟨br, 4, none⟩ = some (.int .i64 st.last) := by rw [qaf H.box]; rfl
 have c5 : w.cell? ⟨br, 5, none⟩ = some (.int .i64 st.committed) := by rw [qaf H.box]; rfl
 have f0 : ∀ i, w.frozen? ⟨br, i, none⟩ = false := fun i => by simp [World.frozen?, H.box]
 have f3 := f0 3; have f4 := f0 4
 have HC := Lib.hid H.cleared
 have HF := Lib.hid (show Fr [br, y.gv] w ((w.setCell ⟨br, 3, none⟩ (.slice none 0 0)).setCell ⟨br, 4, none⟩ (.int .i64 st.committed)) from ((Fr.refl [br, y.gv] w).set (by simp) 3 _).set (by simp) 4 _)
 clear H f0
 go_enter Tryz.func77, Tryz.ntmps77
 go_upto_region 4 with fail
 generalize (w.setCell ⟨br, 3, none⟩ (.slice none 0 0)).setCell ⟨br, 4, none⟩ (.int .i64 st.committed) = V at *
 clear c3 c4 c5 f3 f4
 generalize hN : st.acked.length = n at *
 have HN := Lib.hid hN; clear hN
 go_wp2_with fail
 go_loopw [4] (fun i wr => ∃ j : Nat, i = .int .i64 ↑j ∧ j ≤ n ∧ RqAt wr lo br { y with A := none, c := 0, Hs := [] } Q { st with L := [], last := st.committed, acked := minL st.acked st.committed j } ∧ Fr [br, y.gv] w wr) (fun i _ => n - (intOf i).toNat)
 case atStart => exact ⟨0, rfl, Nat.zero_le _, by rw [show minL st.acked st.committed 0 = st.acked by simp [minL]]; exact HC.out, HF.out⟩
 case round =>
 clear HC HF
 obtain ⟨j, rfl, hj, hqj, hfj⟩ := hrel
 have HQJ := Lib.hid hqj; have HFJ := Lib.hid hfj; clear hqj hfj
 have hlen : (minL st.acked st.committed j).length = n := by rw [qfz]; exact HN.out
 have d2 : wr.cell? ⟨br, 2, none⟩ = some (.slice (some ⟨y.gv, 0, none⟩) n n) := by
  rw [qaf HQJ.out.box, ← hlen]; rfl
 by_cases hlj : j < n
 ·have hja : j < st.acked.length := by rw [HN.out]; exact hlj
  have hjm : j < (minL st.acked st.committed j).length := by rw [hlen]; exact hlj
  have d5 : wr.cell? ⟨br, 5, none⟩ = some (.int .i64 st.committed) := by rw [qaf HQJ.out.box]; rfl
  have da := HQJ.out.vc (i := j) hjm
  simp only [qfZ _ _ _ hja] at da
  have fa := HQJ.out.vf j
  have HMS := Lib.hid (qhP st.acked st.committed j hja)
  have HSS := Lib.hid (show (minL st.acked st.committed j).set j st.acked[j]! = minL st.acked st.committed j by have := qhM _ _ hjm; rwa [qfZ _ _ _ hja] at this)
  have hjn : (j : Int) < (n : Int) := by omega
  have hj0 : (0 : Int) ≤ (j : Int) := by omega
  clear hja hjm hlen
  generalize st.acked[j]! = yy at *
  by_cases hgt : st.committed < yy
  ·have t1 : decide (st.committed < yy) = true := decide_eq_true hgt
   have HSET := Lib.hid (fun (q1 q2 : Nat) => show RqAt (((wr.drewN q1).setCell ⟨y.gv, j, none⟩ (.int .i64 st.committed)).drewN q2) lo br { y with A := none, c := 0, Hs := [] } Q { st with L := [], last := st.committed, acked := minL st.acked st.committed (j + 1) } ∧ Fr [br, y.gv] w (((wr.drewN q1).setCell ⟨y.gv, j, none⟩ (.int .i64 st.committed)).drewN q2) from by
    have h := ((HQJ.out.below (qbl wr q1)).setV j st.committed)
    refine ⟨?_, ?_⟩
    ·have e : (minL st.acked st.committed j).set j st.committed = minL st.acked st.committed (j + 1) := by rw [← HMS.out]; congr 1; omega
     simp only [e] at h
     exact h.below (qbl _ q2)
    ·exact ((HFJ.out.trans (Fr.drewN [br, y.gv] wr q1) (fun g hg => .inl hg)).set (show y.gv ∈ [br, y.gv] by simp) j _).trans (Fr.drewN [br, y.gv] _ q2) (fun g hg => .inl hg))
   clear hgt HMS HSS
   go_wp2_with fail
   go_quiet (fail)
   go_upto_region 8 with fail
   have D2 : (wr.drewN nq).cell? ⟨br, 2, none⟩ = some (.slice (some ⟨y.gv, 0, none⟩) n n) := d2
   have D5 : (wr.drewN nq).cell? ⟨br, 5, none⟩ = some (.int .i64 st.committed) := d5
   have DA : (wr.drewN nq).cell? ⟨y.gv, j, none⟩ = some (.int .i64 yy) := da
   have FA : (wr.drewN nq).frozen? ⟨y.gv, j, none⟩ = false := fa
   have HS2 := Lib.hid (HSET.out nq); clear HSET d2 d5 da fa
   generalize wr.drewN nq = V2 at *
   go_region
   all_goals go_wp2_with fail
   go_roundw
   case rel => exact ⟨j + 1, by go_num, by omega, (HS2.out 1).1, (HS2.out 1).2⟩
   case measure => simp [intOf]; omega
  ·have t1 : decide (st.committed < yy) = false := decide_eq_false hgt
   have e : minL st.acked st.committed j = minL st.acked st.committed (j + 1) := by rw [← HMS.out, ← HSS.out, List.set_set]; congr 1; omega
   have HNX := Lib.hid (fun (q : Nat) => show RqAt (wr.drewN q) lo br { y with A := none, c := 0, Hs := [] } Q { st with L := [], last := st.committed, acked := minL st.acked st.committed (j + 1) } ∧ Fr [br, y.gv] w (wr.drewN q) from by
    have h := HQJ.out.below (qbl wr q)
    simp only [e] at h
    exact ⟨h, HFJ.out.trans (Fr.drewN [br, y.gv] wr q) (fun g hg => .inl hg)⟩)
   clear hgt HMS HSS e
   go_wp2_with fail
   go_quiet (fail)
   go_wp2_with fail
   go_roundw
   case rel => exact ⟨j + 1, by go_num, by omega, (HNX.out _).1, (HNX.out _).2⟩
   case measure => simp [intOf]; omega
 ·obtain rfl : j = n := by omega
  go_wp2_with fail
  go_ret
  have hall : minL st.acked st.committed j = st.acked.map (fun x => min x st.committed) := by rw [← HN.out]; exact qhR _ _
  have hq9 := HQJ.out
  simp only [hall] at hq9
  exact ⟨rfl, ⟨⟨_, Q, hq9, rfl, fun _ h => .inl h⟩, HFJ.out⟩⟩
end Go.Proofs.YtbpmmmnphpkdjaaGreatDoor

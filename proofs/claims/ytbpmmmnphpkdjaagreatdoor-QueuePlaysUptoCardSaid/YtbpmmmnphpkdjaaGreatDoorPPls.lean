/- The law QueuePlays. Condition: bulk at most 2^20. -/
import Derived.Test.YtbpmmmnphpkdjaaGreatDoorPStpB
import Derived.Test.YtbpmmmnphpkdjaaGreatDoorPPlsW
namespace Go.Proofs.YtbpmmmnphpkdjaaGreatDoor
set_option linter.unusedSimpArgs false
set_option maxRecDepth 100000
set_option maxHeartbeats 20000000
open Go.RowKit Go.MapKept Go.Maps
theorem queuePlays_any (bound voters : Int) (A0 : Option Addr) (n0 c0 : Nat) (l0 : List QoV) (w : World) (hE : Env w)
  (o0 : Sl w w.heap.size (fun z : QoV => encQo z.1 z.2.1) 48 A0 n0 l0) (z0 : n0 ≤ 1048576) (q0 : ∀ j, j < n0 → QoOk w 1048576 l0[j]!) :
  Calls Tryz.prog 8 #[.int .i64 bound, .int .i64 voters, .slice A0 n0 c0] w (RetB w true) := by
 have HE := Lib.hid hE; have HO0 := Lib.hid o0; have HQ0 := Lib.hid q0
 clear hE o0 q0
 go_enter Tryz.func8, Tryz.ntmps8
 by_cases hbad : bound < 0 ∨ 4096 < bound ∨ voters < 0 ∨ 9 < voters
 ·have HN := Lib.hid (qor bound voters w hbad)
  go_wp2_with fail
  refine HN.out.mono ?_
  rintro e w2 ⟨rfl, hb2⟩
  have HB2 := Lib.hid hb2
  have HN2 := Lib.hid (qkN bound voters w2 hbad)
  clear hb2 hbad HN
  go_wp2_with fail
  refine HN2.out.mono ?_
  rintro e w3 ⟨rfl, hb3⟩
  have HB3 := Lib.hid (HB2.out.trans (hb3.mono HB2.out.size))
  have HLV := Lib.hid (qfE w3 (HE.out.below (Nat.le_refl _) HB3.out))
  clear hb3 HN2
  go_wp2_with fail
  refine (qcS _ _).mono ?_
  rintro e w' ⟨rfl, rfl⟩
  go_wp2_with fail
  refine HLV.out.mono ?_
  rintro e w4 ⟨rfl, hb4⟩
  have HB4 := Lib.hid (HB3.out.trans (hb4.mono HB3.out.size))
  clear hb4 HLV
  go_wp2_with fail
  go_ret
  exact RetB.mk HB4.out rfl
 obtain ⟨v, rfl⟩ : ∃ v : Nat, voters = (v : Int) := ⟨voters.toNat, by omega⟩
 have HV := Lib.hid (show 0 ≤ bound ∧ bound ≤ 4096 ∧ v ≤ 9 by omega)
 clear hbad
 have HN := Lib.hid (qlt bound v w HV.out.1 HV.out.2.1 HV.out.2.2)
 go_wp2_with fail
 refine HN.out.mono ?_
 rintro e w2 ⟨⟨bq, x, R, rfl, hq, g1, g2, g3, -⟩, hb2⟩
 have HB2 := Lib.hid hb2; have HQW := Lib.hid hq; have HGQ := Lib.hid (And.intro g1 (And.intro g2 g3))
 have HN2 := Lib.hid (qlh w.heap.size bound v w2 hb2.size HV.out.1 HV.out.2.1 HV.out.2.2)
 clear hb2 hq g1 g2 g3 HN
 go_wp2_with fail
 refine HN2.out.mono ?_
 rintro e w3 ⟨⟨br, y, Q, rfl, hr, k1, k2, k3⟩, hb3⟩
 have HP := Lib.hid (PlE.made (Below.refl _ w) HQW.out HGQ.out HB2.out hr ⟨k1, k2, k3⟩ hb3 (qhD bound v HV.out.1 HV.out.2.1 HV.out.2.2))
 have HLV := Lib.hid (qfE w3 (HE.out.below (Nat.le_refl _) HP.out.b))
 clear hr k1 k2 k3 hb3 HN2 HQW HGQ HB2
 go_wp2_with fail
 refine (qcS _ _).mono ?_
 rintro e w' ⟨rfl, rfl⟩
 go_wp2_with fail
 refine HLV.out.mono ?_
 rintro e w4 ⟨rfl, hb4⟩
 have HP4 := Lib.hid (HP.out.later hb4)
 have HV9 := Lib.hid (show (newS bound v).vs.length ≤ 9 from by have := HV.out.2.2; simpa [newS] using this)
 clear hb4 HLV HP
 generalize newS bound v = st0 at *
 go_wp2_with fail
 go_loopw [11, 12, 13] (fun i _ _ wr => ∃ (j : Nat) (st : QuT) (x : QuX) (R : Nat → Prop) (y : RqX) (Q : Nat → Prop), i = .int .i64 ↑j ∧ j ≤ n0 ∧ st.vs.length ≤ 9 ∧ PlE w wr bq br st st x R y Q) (fun i _ _ _ => n0 - (intOf i).toNat)
 case atStart => exact ⟨0, st0, x, R, y, Q, rfl, Nat.zero_le _, HV9.out, HP4.out⟩
 case round =>
 clear HP4 HV9 x R y Q
 obtain ⟨j, st, x, R, y, Q, rfl, hj, hv9, hp⟩ := hrel
 have HP := Lib.hid hp; have HV9 := Lib.hid hv9
 clear hp hv9
 by_cases hlt : j < n0
 ·have ⟨b, off, eb, _, hcb⟩ := HO0.out.cells hlt
  have HQ := Lib.hid (HQ0.out j hlt)
  have y0 : wr.rangeAt b (off + j * 48) (encQo l0[j]!.1 l0[j]!.2.1) := fun i u hu => qaD (hcb i u hu) HP.out.b
  have hji : (j : Int) < (n0 : Int) := by omega
  have hj0 : (0 : Int) ≤ (j : Int) := by omega
  clear hcb
  subst eb
  generalize l0[j]! = z at *
  obtain ⟨⟨k, on, oz⟩, h, p⟩ := z
  have HS := Lib.hid (qmo w wr HE.out bq br st x R y Q HP.out HV9.out k on oz h p HQ.out.2.1 HQ.out.2.2)
  clear HQ
  go_wp2_with (first
   | (apply qau 77; exact rfl; exact rfl; exact rfl; exact y0; exact qmY; exact rfl; exact qmI)
   | fail)
  refine HS.out.mono ?_
  clear HS HP HV9 x R y Q y0 st
  rintro e w3 ⟨rfl, st, x, R, y, Q, hv9, hp⟩
  have HP := Lib.hid hp; have HV9 := Lib.hid hv9
  clear hp hv9
  by_cases hl0 : st.L.length = 0
  ·have HF := Lib.hid (qmE bq x R st w3 HP.out.q.q hl0)
   have HLN := Lib.hid hl0
   clear hl0
   go_wp2_with fail
   refine HF.out.mono ?_
   rintro e w4 ⟨rfl, hb4⟩
   have HP1 := Lib.hid (HP.out.later (show Below w3.heap.size w3 (w4.alloc (.cells rzPr 63)) from hb4.trans (((Below.refl _ w4).alloc (Nat.le_refl _) _).mono hb4.size)))
   clear hb4 HF HP
   go_upto_region 13 with (first
    | (apply qai 63 63; exact rfl; exact rfl; exact rfl; (first | (with_reducible rfl) | (exact sz1 _ _) | (exact sz2 _ _ _) | (exact sz3 _ _ _ _)); exact rfl; exact qaF; exact rfl; (first | exact qbf _ | simp [Value.oneCell']))
    | fail)
   change Code.wp _ _ _ _ (w4.alloc (.cells rzPr 63))
   generalize w4.alloc (.cells rzPr 63) = V1 at *
   have HPl := Lib.hid (fun (V : World) (hV : Below V1.heap.size V1 V) => HP1.out.later hV)
   have HLEN := Lib.hid (fun (V : World) (hV : Below V1.heap.size V1 V) => show Calls Tryz.prog 26 #[.pointer (some ⟨bq, 0, none⟩)] V (fun e w' => e = .returned (.int .i64 0) ∧ Below V.heap.size V w') from (qct bq x R st V (HPl.out V hV).q.q).mono (fun _ _ h => ⟨by rw [h.1, HLN.out] <;> rfl, h.bl.2⟩))
   have HRDY := Lib.hid (fun (V : World) (hV : Below V1.heap.size V1 V) => qld (HPl.out V hV).q (HPl.out V hV).ia)
   have HRRD := Lib.hid (fun (V : World) (hV : Below V1.heap.size V1 V) => qca V w.heap.size br y Q st (HPl.out V hV).r (HPl.out V hV).ib (by have := HV9.out; omega))
   have HLST := Lib.hid (fun (V : World) (hV : Below V1.heap.size V1 V) => (qeW bq x R st V (HPl.out V hV).q.q).mono (fun _ _ h => h.bl))
   have HCOM := Lib.hid (fun (V : World) (hV : Below V1.heap.size V1 V) => (qdv bq x R st V (HPl.out V hV).q.q).mono (fun _ _ h => h.bl))
   have HFUL := Lib.hid (fun (V : World) (hV : Below V1.heap.size V1 V) => show Calls Tryz.prog 34 #[.pointer (some ⟨bq, 0, none⟩)] V (fun e w' => e = .returned (.bool (decide (st.bound ≤ 0))) ∧ Below V.heap.size V w') from (qcZ bq x R st V (HPl.out V hV).q.q).mono (fun _ _ h => ⟨by rw [h.1, HLN.out] <;> rfl, h.bl.2⟩))
   have HSO := Lib.hid (fun (V : World) (hV : Below V1.heap.size V1 V) => (show V.cell? ⟨br, 3, none⟩ = some (.slice y.A 0 y.c) ∧ V.cell? ⟨br, 4, none⟩ = some (.int .i64 st.last) ∧ V.cell? ⟨br, 5, none⟩ = some (.int .i64 st.committed) ∧ V.cell? ⟨br, 0, none⟩ = some (.int .i64 st.bound) from
    ⟨by rw [← HLN.out, qaf (HPl.out V hV).r.box]; rfl, by rw [qaf (HPl.out V hV).r.box]; rfl, by rw [qaf (HPl.out V hV).r.box]; rfl, by rw [qaf (HPl.out V hV).r.box]; rfl⟩))
   have HBX0 := Lib.hid (qaj V1)
   refine qaN (S := fun V => V.cell? ⟨br, 3, none⟩ = some (.slice y.A 0 y.c) ∧ V.cell? ⟨br, 4, none⟩ = some (.int .i64 st.last) ∧ V.cell? ⟨br, 5, none⟩ = some (.int .i64 st.committed) ∧ V.cell? ⟨br, 0, none⟩ = some (.int .i64 st.bound)) 58 (by kernel_rfl) (HSO.out _ HBX0.out) (fun hHeld => ?_)
   refine qab (i := 0) (v := .pointer (some ⟨bq, 0, none⟩)) rfl (by kernel_rfl) (fun _ _ _ h => h) (Or.inl ⟨by rfl, by intro w hSw; clear hSw; go_simp⟩) (by assumption) ?_
   (try simp only [pT])
   refine qab (i := 2) (v := .pointer (some ⟨br, 0, none⟩)) rfl (by kernel_rfl) (fun _ _ _ h => h) (Or.inl ⟨by rfl, by intro w hSw; clear hSw; go_simp⟩) (by assumption) ?_
   (try simp only [pT])
   refine qab (i := 3) (v := .pointer (some ⟨br, 0, none⟩)) rfl (by kernel_rfl) (fun _ _ _ h => h) (Or.inl ⟨by rfl, by intro w hSw; clear hSw; go_simp⟩) (by assumption) ?_
   (try simp only [pT])
   refine qab (i := 4) (v := .pointer (some ⟨br, 3, none⟩)) rfl (by kernel_rfl) (fun _ _ _ h => h) (Or.inl ⟨by rfl, by intro w hSw; clear hSw; go_simp⟩) (by assumption) ?_
   (try simp only [pT])
   refine qab (i := 5) (v := .slice y.A 0 y.c) rfl (by kernel_rfl) (fun _ _ _ h => h) (Or.inl ⟨by rfl, by intro w hSw; have hSx := hSw.1; clear hSw; go_simp⟩) (by assumption) ?_
   (try simp only [pT])
   refine qab (i := 6) (v := .int .i64 0) rfl (by kernel_rfl) (fun _ _ _ h => h) (Or.inl ⟨by rfl, by intro w hSw; clear hSw; go_simp⟩) (by assumption) ?_
   (try simp only [pT])
   refine qan (i := 1) rfl (by kernel_rfl) (fun K hK => ?_)
   go_simp
   refine (HLEN.out _ HBX0.out).mono ?_
   rintro e w' ⟨rfl, hb⟩
   dsimp only
   have HBX1 := Lib.hid (HBX0.out.trans (hb.mono HBX0.out.size))
   clear hb
   replace hHeld := HSO.out _ HBX1.out
   refine hK.out _ _ hHeld ?_
   clear hK K
   (try simp only [pT])
   refine qab (i := 7) (v := .bool false) rfl (by kernel_rfl) (fun _ _ _ h => h) (Or.inl ⟨by rfl, by intro w hSw; clear hSw; go_simp⟩) (by assumption) ?_
   (try simp only [pT])
   refine qab (i := 8) (v := .bool false) rfl (by kernel_rfl) (fun _ _ _ h => h) (Or.inl ⟨by rfl, by intro w hSw; clear hSw; go_simp⟩) (by assumption) ?_
   (try simp only [pT])
   refine qab (i := 9) (v := .pointer (some ⟨bq, 0, none⟩)) rfl (by kernel_rfl) (fun _ _ _ h => h) (Or.inl ⟨by rfl, by intro w hSw; clear hSw; go_simp⟩) (by assumption) ?_
   (try simp only [pT])
   refine qab (i := 11) (v := .pointer (some ⟨br, 0, none⟩)) rfl (by kernel_rfl) (fun _ _ _ h => h) (Or.inl ⟨by rfl, by intro w hSw; clear hSw; go_simp⟩) (by assumption) ?_
   (try simp only [pT])
   refine qan (i := 10) rfl (by kernel_rfl) (fun K hK => ?_)
   go_simp
   refine (HRDY.out _ HBX1.out).mono ?_
   rintro e w' ⟨rfl, hb⟩
   dsimp only
   have HBX2 := Lib.hid (HBX1.out.trans (hb.mono HBX1.out.size))
   clear hb
   replace hHeld := HSO.out _ HBX2.out
   refine hK.out _ _ hHeld ?_
   clear hK K
   (try simp only [pT])
   refine qan (i := 12) rfl (by kernel_rfl) (fun K hK => ?_)
   go_simp
   refine (HRRD.out _ HBX2.out).mono ?_
   rintro e w' ⟨rfl, hb⟩
   dsimp only
   have HBX3 := Lib.hid (HBX2.out.trans (hb.mono HBX2.out.size))
   clear hb
   replace hHeld := HSO.out _ HBX3.out
   refine hK.out _ _ hHeld ?_
   clear hK K
   (try simp only [pT])
   refine qab (i := 13) (v := .bool false) rfl (by kernel_rfl) (fun _ _ _ h => h) (Or.inl ⟨by rfl, by intro w hSw; clear hSw; go_simp⟩) (by assumption) ?_
   (try simp only [pT])
   refine qab (i := 14) (v := .bool false) rfl (by kernel_rfl) (fun _ _ _ h => h) (Or.inl ⟨by rfl, by intro w hSw; clear hSw; go_simp⟩) (by assumption) ?_
   (try simp only [pT])
   refine qab (i := 15) (v := .bool false) rfl (by kernel_rfl) (fun _ _ _ h => h) (Or.inl ⟨by rfl, by intro w hSw; clear hSw; go_simp⟩) (by assumption) ?_
   (try simp only [pT])
   refine qab (i := 16) (v := .pointer (some ⟨bq, 0, none⟩)) rfl (by kernel_rfl) (fun _ _ _ h => h) (Or.inl ⟨by rfl, by intro w hSw; clear hSw; go_simp⟩) (by assumption) ?_
   (try simp only [pT])
   refine qab (i := 18) (v := .pointer (some ⟨br, 0, none⟩)) rfl (by kernel_rfl) (fun _ _ _ h => h) (Or.inl ⟨by rfl, by intro w hSw; clear hSw; go_simp⟩) (by assumption) ?_
   (try simp only [pT])
   refine qab (i := 19) (v := .pointer (some ⟨br, 0, none⟩)) rfl (by kernel_rfl) (fun _ _ _ h => h) (Or.inl ⟨by rfl, by intro w hSw; clear hSw; go_simp⟩) (by assumption) ?_
   (try simp only [pT])
   refine qab (i := 20) (v := .pointer (some ⟨br, 4, none⟩)) rfl (by kernel_rfl) (fun _ _ _ h => h) (Or.inl ⟨by rfl, by intro w hSw; clear hSw; go_simp⟩) (by assumption) ?_
   (try simp only [pT])
   refine qab (i := 21) (v := .int .i64 st.last) rfl (by kernel_rfl) (fun _ _ _ h => h) (Or.inl ⟨by rfl, by intro w hSw; have hSx := hSw.2.1; clear hSw; go_simp⟩) (by assumption) ?_
   (try simp only [pT])
   refine qan (i := 17) rfl (by kernel_rfl) (fun K hK => ?_)
   go_simp
   refine (HLST.out _ HBX3.out).mono ?_
   rintro e w' ⟨rfl, hb⟩
   dsimp only
   have HBX4 := Lib.hid (HBX3.out.trans (hb.mono HBX3.out.size))
   clear hb
   replace hHeld := HSO.out _ HBX4.out
   refine hK.out _ _ hHeld ?_
   clear hK K
   (try simp only [pT])
   refine qab (i := 22) (v := .bool false) rfl (by kernel_rfl) (fun _ _ _ h => h) (Or.inl ⟨by rfl, by intro w hSw; clear hSw; go_simp⟩) (by assumption) ?_
   (try simp only [pT])
   refine qab (i := 23) (v := .bool false) rfl (by kernel_rfl) (fun _ _ _ h => h) (Or.inl ⟨by rfl, by intro w hSw; clear hSw; go_simp⟩) (by assumption) ?_
   (try simp only [pT])
   refine qab (i := 24) (v := .bool false) rfl (by kernel_rfl) (fun _ _ _ h => h) (Or.inl ⟨by rfl, by intro w hSw; clear hSw; go_simp⟩) (by assumption) ?_
   (try simp only [pT])
   refine qab (i := 25) (v := .pointer (some ⟨bq, 0, none⟩)) rfl (by kernel_rfl) (fun _ _ _ h => h) (Or.inl ⟨by rfl, by intro w hSw; clear hSw; go_simp⟩) (by assumption) ?_
   (try simp only [pT])
   refine qab (i := 27) (v := .pointer (some ⟨br, 0, none⟩)) rfl (by kernel_rfl) (fun _ _ _ h => h) (Or.inl ⟨by rfl, by intro w hSw; clear hSw; go_simp⟩) (by assumption) ?_
   (try simp only [pT])
   refine qab (i := 28) (v := .pointer (some ⟨br, 0, none⟩)) rfl (by kernel_rfl) (fun _ _ _ h => h) (Or.inl ⟨by rfl, by intro w hSw; clear hSw; go_simp⟩) (by assumption) ?_
   (try simp only [pT])
   refine qab (i := 29) (v := .pointer (some ⟨br, 5, none⟩)) rfl (by kernel_rfl) (fun _ _ _ h => h) (Or.inl ⟨by rfl, by intro w hSw; clear hSw; go_simp⟩) (by assumption) ?_
   (try simp only [pT])
   refine qab (i := 30) (v := .int .i64 st.committed) rfl (by kernel_rfl) (fun _ _ _ h => h) (Or.inl ⟨by rfl, by intro w hSw; have hSx := hSw.2.2.1; clear hSw; go_simp⟩) (by assumption) ?_
   (try simp only [pT])
   refine qan (i := 26) rfl (by kernel_rfl) (fun K hK => ?_)
   go_simp
   refine (HCOM.out _ HBX4.out).mono ?_
   rintro e w' ⟨rfl, hb⟩
   dsimp only
   have HBX5 := Lib.hid (HBX4.out.trans (hb.mono HBX4.out.size))
   clear hb
   replace hHeld := HSO.out _ HBX5.out
   refine hK.out _ _ hHeld ?_
   clear hK K
   (try simp only [pT])
   refine qab (i := 31) (v := .bool false) rfl (by kernel_rfl) (fun _ _ _ h => h) (Or.inl ⟨by rfl, by intro w hSw; clear hSw; go_simp⟩) (by assumption) ?_
   (try simp only [pT])
   refine qab (i := 32) (v := .bool false) rfl (by kernel_rfl) (fun _ _ _ h => h) (Or.inl ⟨by rfl, by intro w hSw; clear hSw; go_simp⟩) (by assumption) ?_
   (try simp only [pT])
   refine qab (i := 33) (v := .bool false) rfl (by kernel_rfl) (fun _ _ _ h => h) (Or.inl ⟨by rfl, by intro w hSw; clear hSw; go_simp⟩) (by assumption) ?_
   (try simp only [pT])
   refine qab (i := 34) (v := .pointer (some ⟨bq, 0, none⟩)) rfl (by kernel_rfl) (fun _ _ _ h => h) (Or.inl ⟨by rfl, by intro w hSw; clear hSw; go_simp⟩) (by assumption) ?_
   (try simp only [pT])
   refine qab (i := 36) (v := .pointer (some ⟨br, 0, none⟩)) rfl (by kernel_rfl) (fun _ _ _ h => h) (Or.inl ⟨by rfl, by intro w hSw; clear hSw; go_simp⟩) (by assumption) ?_
   (try simp only [pT])
   refine qab (i := 37) (v := .pointer (some ⟨br, 0, none⟩)) rfl (by kernel_rfl) (fun _ _ _ h => h) (Or.inl ⟨by rfl, by intro w hSw; clear hSw; go_simp⟩) (by assumption) ?_
   (try simp only [pT])
   refine qab (i := 38) (v := .pointer (some ⟨br, 3, none⟩)) rfl (by kernel_rfl) (fun _ _ _ h => h) (Or.inl ⟨by rfl, by intro w hSw; clear hSw; go_simp⟩) (by assumption) ?_
   (try simp only [pT])
   refine qab (i := 39) (v := .slice y.A 0 y.c) rfl (by kernel_rfl) (fun _ _ _ h => h) (Or.inl ⟨by rfl, by intro w hSw; have hSx := hSw.1; clear hSw; go_simp⟩) (by assumption) ?_
   (try simp only [pT])
   refine qab (i := 40) (v := .int .i64 0) rfl (by kernel_rfl) (fun _ _ _ h => h) (Or.inl ⟨by rfl, by intro w hSw; clear hSw; go_simp⟩) (by assumption) ?_
   (try simp only [pT])
   refine qab (i := 41) (v := .pointer (some ⟨br, 0, none⟩)) rfl (by kernel_rfl) (fun _ _ _ h => h) (Or.inl ⟨by rfl, by intro w hSw; clear hSw; go_simp⟩) (by assumption) ?_
   (try simp only [pT])
   refine qab (i := 42) (v := .pointer (some ⟨br, 0, none⟩)) rfl (by kernel_rfl) (fun _ _ _ h => h) (Or.inl ⟨by rfl, by intro w hSw; clear hSw; go_simp⟩) (by assumption) ?_
   (try simp only [pT])
   refine qab (i := 43) (v := .pointer (some ⟨br, 0, none⟩)) rfl (by kernel_rfl) (fun _ _ _ h => h) (Or.inl ⟨by rfl, by intro w hSw; clear hSw; go_simp⟩) (by assumption) ?_
   (try simp only [pT])
   refine qab (i := 44) (v := .int .i64 st.bound) rfl (by kernel_rfl) (fun _ _ _ h => h) (Or.inl ⟨by rfl, by intro w hSw; have hSx := hSw.2.2.2; clear hSw; go_simp⟩) (by assumption) ?_
   (try simp only [pT])
   refine qab (i := 45) (v := .bool (decide (st.bound ≤ 0))) rfl (by kernel_rfl) (fun _ _ _ h => h) (Or.inl ⟨by rfl, by intro w hSw; clear hSw; go_simp⟩) (by assumption) ?_
   (try simp only [pT])
   refine qan (i := 35) rfl (by kernel_rfl) (fun K hK => ?_)
   go_simp
   refine (HFUL.out _ HBX5.out).mono ?_
   rintro e w' ⟨rfl, hb⟩
   dsimp only
   have HBX6 := Lib.hid (HBX5.out.trans (hb.mono HBX5.out.size))
   clear hb
   replace hHeld := HSO.out _ HBX6.out
   refine hK.out _ _ hHeld ?_
   clear hK K
   (try simp only [pT])
   refine qab (i := 46) (v := .bool false) rfl (by kernel_rfl) (fun _ _ _ h => h) (Or.inl ⟨by rfl, by intro w hSw; clear hSw; go_simp⟩) (by assumption) ?_
   (try simp only [pT])
   refine qab (i := 47) (v := .bool false) rfl (by kernel_rfl) (fun _ _ _ h => h) (Or.inl ⟨by rfl, by intro w hSw; clear hSw; go_simp⟩) (by assumption) ?_
   (try simp only [pT])
   refine qab (i := 48) (v := .bool false) rfl (by kernel_rfl) (fun _ _ _ h => h) (Or.inl ⟨by rfl, by intro w hSw; clear hSw; go_simp⟩) (by assumption) ?_
   (try simp only [pT])
   refine qab (i := 49) (v := .bool false) rfl (by kernel_rfl) (fun _ _ _ h => h) (Or.inl ⟨by rfl, by intro w hSw; clear hSw; go_simp⟩) (by assumption) ?_
   (try simp only [pT])
   refine qab (i := 50) (v := .pointer (some ⟨br, 0, none⟩)) rfl (by kernel_rfl) (fun _ _ _ h => h) (Or.inl ⟨by rfl, by intro w hSw; clear hSw; go_simp⟩) (by assumption) ?_
   (try simp only [pT])
   refine qab (i := 51) (v := .pointer (some ⟨br, 0, none⟩)) rfl (by kernel_rfl) (fun _ _ _ h => h) (Or.inl ⟨by rfl, by intro w hSw; clear hSw; go_simp⟩) (by assumption) ?_
   (try simp only [pT])
   refine qab (i := 52) (v := .pointer (some ⟨br, 3, none⟩)) rfl (by kernel_rfl) (fun _ _ _ h => h) (Or.inl ⟨by rfl, by intro w hSw; clear hSw; go_simp⟩) (by assumption) ?_
   (try simp only [pT])
   refine qab (i := 53) (v := .slice y.A 0 y.c) rfl (by kernel_rfl) (fun _ _ _ h => h) (Or.inl ⟨by rfl, by intro w hSw; have hSx := hSw.1; clear hSw; go_simp⟩) (by assumption) ?_
   (try simp only [pT])
   refine qab (i := 54) (v := .int .i64 0) rfl (by kernel_rfl) (fun _ _ _ h => h) (Or.inl ⟨by rfl, by intro w hSw; clear hSw; go_simp⟩) (by assumption) ?_
   (try simp only [pT])
   refine qab (i := 55) (v := .bool false) rfl (by kernel_rfl) (fun _ _ _ h => h) (Or.inl ⟨by rfl, by intro w hSw; clear hSw; go_simp⟩) (by assumption) ?_
   (try simp only [pT])
   refine qab (i := 56) (v := .bool false) rfl (by kernel_rfl) (fun _ _ _ h => h) (Or.inl ⟨by rfl, by intro w hSw; clear hSw; go_simp⟩) (by assumption) ?_
   (try simp only [pT])
   refine qab (i := 57) (v := .bool false) rfl (by kernel_rfl) (fun _ _ _ h => h) (Or.inl ⟨by rfl, by intro w hSw; clear hSw; go_simp⟩) (by assumption) ?_
   (try simp only [pT])
   refine qaG (n := 58) (by kernel_rfl) ?_
   simp only [List.drop_succ_cons, List.drop_zero, List.drop_nil]
   clear hHeld HLEN HRDY HRRD HLST HCOM HFUL
   have HPF := Lib.hid (HPl.out _ HBX6.out)
   clear HSO HPl HP1
   go_wp2_with fail
   go_roundw
   case rel => exact ⟨j + 1, st, x, R, y, Q, by go_num, by omega, HV9.out, HPF.out⟩
   case measure => simp [intOf]; omega
  ·have hlp : 0 < st.L.length := by omega
   have HF := Lib.hid (qko bq x R st w3 HP.out.q.q hlp (HP.out.ia.sm 0 hlp) HP.out.q.cap)
   have HLP := Lib.hid hlp
   obtain ⟨len, hln⟩ : ∃ len : Nat, st.L.length = len := ⟨_, rfl⟩
   have HLN := Lib.hid hln
   have hpos : 0 < len := by omega
   clear hl0 hlp hln
   go_wp2_with fail
   refine HF.out.mono ?_
   rintro e w4 ⟨⟨ha, rfl, hat, hnf⟩, hb4⟩
   have HAT := Lib.hid hat; have HNF := Lib.hid hnf; have HB4 := Lib.hid hb4
   have HGA := Lib.hid (qac w4 (.cells (qah ha).toArray 63))
   have HZ4 := Lib.hid (sz1 w4 (.cells (qah ha).toArray 63))
   have HB5 := Lib.hid (show Below w4.heap.size w4 (w4.alloc (.cells (qah ha).toArray 63)) from (Below.refl _ w4).alloc (Nat.le_refl _) _)
   have HP1 := Lib.hid (HP.out.later (hb4.trans (HB5.out.mono hb4.size)))
   have HAW := Lib.hid (HP.out.new (P := fun b => w3.heap.size ≤ b ∧ b < w4.heap.size) (fun g h => h.1))
   clear hat hnf hb4 HF HP
   go_upto_region 13 with (first
    | (apply qai 63 63; exact rfl; exact rfl; exact rfl; (first | (with_reducible rfl) | (exact sz1 _ _) | (exact sz2 _ _ _) | (exact sz3 _ _ _ _)); exact rfl; exact qaF; exact rfl; (first | exact qbf _ | simp [Value.oneCell']))
    | fail)
   change Code.wp _ _ _ _ (w4.alloc (.cells (qah ha).toArray 63))
   generalize w4.alloc (.cells (qah ha).toArray 63) = V1 at *
   have HPl := Lib.hid (fun (V : World) (hV : Below V1.heap.size V1 V) => HP1.out.later hV)
   have HLEN := Lib.hid (fun (V : World) (hV : Below V1.heap.size V1 V) => show Calls Tryz.prog 26 #[.pointer (some ⟨bq, 0, none⟩)] V (fun e w' => e = .returned (.int .i64 (len : Int)) ∧ Below V.heap.size V w') from (qct bq x R st V (HPl.out V hV).q.q).mono (fun _ _ h => ⟨by rw [h.1, HLN.out] <;> rfl, h.bl.2⟩))
   have HRDY := Lib.hid (fun (V : World) (hV : Below V1.heap.size V1 V) => qld (HPl.out V hV).q (HPl.out V hV).ia)
   have HRRD := Lib.hid (fun (V : World) (hV : Below V1.heap.size V1 V) => qca V w.heap.size br y Q st (HPl.out V hV).r (HPl.out V hV).ib (by have := HV9.out; omega))
   have HLST := Lib.hid (fun (V : World) (hV : Below V1.heap.size V1 V) => (qeW bq x R st V (HPl.out V hV).q.q).mono (fun _ _ h => h.bl))
   have HCOM := Lib.hid (fun (V : World) (hV : Below V1.heap.size V1 V) => (qdv bq x R st V (HPl.out V hV).q.q).mono (fun _ _ h => h.bl))
   have HFUL := Lib.hid (fun (V : World) (hV : Below V1.heap.size V1 V) => show Calls Tryz.prog 34 #[.pointer (some ⟨bq, 0, none⟩)] V (fun e w' => e = .returned (.bool (decide (st.bound ≤ (len : Int)))) ∧ Below V.heap.size V w') from (qcZ bq x R st V (HPl.out V hV).q.q).mono (fun _ _ h => ⟨by rw [h.1, HLN.out] <;> rfl, h.bl.2⟩))
   have HSO := Lib.hid (fun (V : World) (hV : Below V1.heap.size V1 V) => (show V.cell? ⟨br, 3, none⟩ = some (.slice y.A len y.c) ∧ V.cell? ⟨br, 4, none⟩ = some (.int .i64 st.last) ∧ V.cell? ⟨br, 5, none⟩ = some (.int .i64 st.committed) ∧ V.cell? ⟨br, 0, none⟩ = some (.int .i64 st.bound) from
    ⟨by rw [← HLN.out, qaf (HPl.out V hV).r.box]; rfl, by rw [qaf (HPl.out V hV).r.box]; rfl, by rw [qaf (HPl.out V hV).r.box]; rfl, by rw [qaf (HPl.out V hV).r.box]; rfl⟩))
   have HBX0 := Lib.hid (qaj V1)
   refine qaN (S := fun V => V.cell? ⟨br, 3, none⟩ = some (.slice y.A len y.c) ∧ V.cell? ⟨br, 4, none⟩ = some (.int .i64 st.last) ∧ V.cell? ⟨br, 5, none⟩ = some (.int .i64 st.committed) ∧ V.cell? ⟨br, 0, none⟩ = some (.int .i64 st.bound)) 58 (by kernel_rfl) (HSO.out _ HBX0.out) (fun hHeld => ?_)
   refine qab (i := 0) (v := .pointer (some ⟨bq, 0, none⟩)) rfl (by kernel_rfl) (fun _ _ _ h => h) (Or.inl ⟨by rfl, by intro w hSw; clear hSw; go_simp⟩) (by assumption) ?_
   (try simp only [pT])
   refine qab (i := 2) (v := .pointer (some ⟨br, 0, none⟩)) rfl (by kernel_rfl) (fun _ _ _ h => h) (Or.inl ⟨by rfl, by intro w hSw; clear hSw; go_simp⟩) (by assumption) ?_
   (try simp only [pT])
   refine qab (i := 3) (v := .pointer (some ⟨br, 0, none⟩)) rfl (by kernel_rfl) (fun _ _ _ h => h) (Or.inl ⟨by rfl, by intro w hSw; clear hSw; go_simp⟩) (by assumption) ?_
   (try simp only [pT])
   refine qab (i := 4) (v := .pointer (some ⟨br, 3, none⟩)) rfl (by kernel_rfl) (fun _ _ _ h => h) (Or.inl ⟨by rfl, by intro w hSw; clear hSw; go_simp⟩) (by assumption) ?_
   (try simp only [pT])
   refine qab (i := 5) (v := .slice y.A len y.c) rfl (by kernel_rfl) (fun _ _ _ h => h) (Or.inl ⟨by rfl, by intro w hSw; have hSx := hSw.1; clear hSw; go_simp⟩) (by assumption) ?_
   (try simp only [pT])
   refine qab (i := 6) (v := .int .i64 ↑len) rfl (by kernel_rfl) (fun _ _ _ h => h) (Or.inl ⟨by rfl, by intro w hSw; clear hSw; go_simp⟩) (by assumption) ?_
   (try simp only [pT])
   refine qan (i := 1) rfl (by kernel_rfl) (fun K hK => ?_)
   go_simp
   refine (HLEN.out _ HBX0.out).mono ?_
   rintro e w' ⟨rfl, hb⟩
   dsimp only
   have HBX1 := Lib.hid (HBX0.out.trans (hb.mono HBX0.out.size))
   clear hb
   replace hHeld := HSO.out _ HBX1.out
   refine hK.out _ _ hHeld ?_
   clear hK K
   (try simp only [pT])
   refine qab (i := 7) (v := .bool false) rfl (by kernel_rfl) (fun _ _ _ h => h) (Or.inl ⟨by rfl, by intro w hSw; clear hSw; go_simp⟩) (by assumption) ?_
   (try simp only [pT])
   refine qab (i := 8) (v := .bool false) rfl (by kernel_rfl) (fun _ _ _ h => h) (Or.inl ⟨by rfl, by intro w hSw; clear hSw; go_simp⟩) (by assumption) ?_
   (try simp only [pT])
   refine qab (i := 9) (v := .pointer (some ⟨bq, 0, none⟩)) rfl (by kernel_rfl) (fun _ _ _ h => h) (Or.inl ⟨by rfl, by intro w hSw; clear hSw; go_simp⟩) (by assumption) ?_
   (try simp only [pT])
   refine qab (i := 11) (v := .pointer (some ⟨br, 0, none⟩)) rfl (by kernel_rfl) (fun _ _ _ h => h) (Or.inl ⟨by rfl, by intro w hSw; clear hSw; go_simp⟩) (by assumption) ?_
   (try simp only [pT])
   refine qan (i := 10) rfl (by kernel_rfl) (fun K hK => ?_)
   go_simp
   refine (HRDY.out _ HBX1.out).mono ?_
   rintro e w' ⟨rfl, hb⟩
   dsimp only
   have HBX2 := Lib.hid (HBX1.out.trans (hb.mono HBX1.out.size))
   clear hb
   replace hHeld := HSO.out _ HBX2.out
   refine hK.out _ _ hHeld ?_
   clear hK K
   (try simp only [pT])
   refine qan (i := 12) rfl (by kernel_rfl) (fun K hK => ?_)
   go_simp
   refine (HRRD.out _ HBX2.out).mono ?_
   rintro e w' ⟨rfl, hb⟩
   dsimp only
   have HBX3 := Lib.hid (HBX2.out.trans (hb.mono HBX2.out.size))
   clear hb
   replace hHeld := HSO.out _ HBX3.out
   refine hK.out _ _ hHeld ?_
   clear hK K
   (try simp only [pT])
   refine qab (i := 13) (v := .bool false) rfl (by kernel_rfl) (fun _ _ _ h => h) (Or.inl ⟨by rfl, by intro w hSw; clear hSw; go_simp⟩) (by assumption) ?_
   (try simp only [pT])
   refine qab (i := 14) (v := .bool false) rfl (by kernel_rfl) (fun _ _ _ h => h) (Or.inl ⟨by rfl, by intro w hSw; clear hSw; go_simp⟩) (by assumption) ?_
   (try simp only [pT])
   refine qab (i := 15) (v := .bool false) rfl (by kernel_rfl) (fun _ _ _ h => h) (Or.inl ⟨by rfl, by intro w hSw; clear hSw; go_simp⟩) (by assumption) ?_
   (try simp only [pT])
   refine qab (i := 16) (v := .pointer (some ⟨bq, 0, none⟩)) rfl (by kernel_rfl) (fun _ _ _ h => h) (Or.inl ⟨by rfl, by intro w hSw; clear hSw; go_simp⟩) (by assumption) ?_
   (try simp only [pT])
   refine qab (i := 18) (v := .pointer (some ⟨br, 0, none⟩)) rfl (by kernel_rfl) (fun _ _ _ h => h) (Or.inl ⟨by rfl, by intro w hSw; clear hSw; go_simp⟩) (by assumption) ?_
   (try simp only [pT])
   refine qab (i := 19) (v := .pointer (some ⟨br, 0, none⟩)) rfl (by kernel_rfl) (fun _ _ _ h => h) (Or.inl ⟨by rfl, by intro w hSw; clear hSw; go_simp⟩) (by assumption) ?_
   (try simp only [pT])
   refine qab (i := 20) (v := .pointer (some ⟨br, 4, none⟩)) rfl (by kernel_rfl) (fun _ _ _ h => h) (Or.inl ⟨by rfl, by intro w hSw; clear hSw; go_simp⟩) (by assumption) ?_
   (try simp only [pT])
   refine qab (i := 21) (v := .int .i64 st.last) rfl (by kernel_rfl) (fun _ _ _ h => h) (Or.inl ⟨by rfl, by intro w hSw; have hSx := hSw.2.1; clear hSw; go_simp⟩) (by assumption) ?_
   (try simp only [pT])
   refine qan (i := 17) rfl (by kernel_rfl) (fun K hK => ?_)
   go_simp
   refine (HLST.out _ HBX3.out).mono ?_
   rintro e w' ⟨rfl, hb⟩
   dsimp only
   have HBX4 := Lib.hid (HBX3.out.trans (hb.mono HBX3.out.size))
   clear hb
   replace hHeld := HSO.out _ HBX4.out
   refine hK.out _ _ hHeld ?_
   clear hK K
   (try simp only [pT])
   refine qab (i := 22) (v := .bool false) rfl (by kernel_rfl) (fun _ _ _ h => h) (Or.inl ⟨by rfl, by intro w hSw; clear hSw; go_simp⟩) (by assumption) ?_
   (try simp only [pT])
   refine qab (i := 23) (v := .bool false) rfl (by kernel_rfl) (fun _ _ _ h => h) (Or.inl ⟨by rfl, by intro w hSw; clear hSw; go_simp⟩) (by assumption) ?_
   (try simp only [pT])
   refine qab (i := 24) (v := .bool false) rfl (by kernel_rfl) (fun _ _ _ h => h) (Or.inl ⟨by rfl, by intro w hSw; clear hSw; go_simp⟩) (by assumption) ?_
   (try simp only [pT])
   refine qab (i := 25) (v := .pointer (some ⟨bq, 0, none⟩)) rfl (by kernel_rfl) (fun _ _ _ h => h) (Or.inl ⟨by rfl, by intro w hSw; clear hSw; go_simp⟩) (by assumption) ?_
   (try simp only [pT])
   refine qab (i := 27) (v := .pointer (some ⟨br, 0, none⟩)) rfl (by kernel_rfl) (fun _ _ _ h => h) (Or.inl ⟨by rfl, by intro w hSw; clear hSw; go_simp⟩) (by assumption) ?_
   (try simp only [pT])
   refine qab (i := 28) (v := .pointer (some ⟨br, 0, none⟩)) rfl (by kernel_rfl) (fun _ _ _ h => h) (Or.inl ⟨by rfl, by intro w hSw; clear hSw; go_simp⟩) (by assumption) ?_
   (try simp only [pT])
   refine qab (i := 29) (v := .pointer (some ⟨br, 5, none⟩)) rfl (by kernel_rfl) (fun _ _ _ h => h) (Or.inl ⟨by rfl, by intro w hSw; clear hSw; go_simp⟩) (by assumption) ?_
   (try simp only [pT])
   refine qab (i := 30) (v := .int .i64 st.committed) rfl (by kernel_rfl) (fun _ _ _ h => h) (Or.inl ⟨by rfl, by intro w hSw; have hSx := hSw.2.2.1; clear hSw; go_simp⟩) (by assumption) ?_
   (try simp only [pT])
   refine qan (i := 26) rfl (by kernel_rfl) (fun K hK => ?_)
   go_simp
   refine (HCOM.out _ HBX4.out).mono ?_
   rintro e w' ⟨rfl, hb⟩
   dsimp only
   have HBX5 := Lib.hid (HBX4.out.trans (hb.mono HBX4.out.size))
   clear hb
   replace hHeld := HSO.out _ HBX5.out
   refine hK.out _ _ hHeld ?_
   clear hK K
   (try simp only [pT])
   refine qab (i := 31) (v := .bool false) rfl (by kernel_rfl) (fun _ _ _ h => h) (Or.inl ⟨by rfl, by intro w hSw; clear hSw; go_simp⟩) (by assumption) ?_
   (try simp only [pT])
   refine qab (i := 32) (v := .bool false) rfl (by kernel_rfl) (fun _ _ _ h => h) (Or.inl ⟨by rfl, by intro w hSw; clear hSw; go_simp⟩) (by assumption) ?_
   (try simp only [pT])
   refine qab (i := 33) (v := .bool false) rfl (by kernel_rfl) (fun _ _ _ h => h) (Or.inl ⟨by rfl, by intro w hSw; clear hSw; go_simp⟩) (by assumption) ?_
   (try simp only [pT])
   refine qab (i := 34) (v := .pointer (some ⟨bq, 0, none⟩)) rfl (by kernel_rfl) (fun _ _ _ h => h) (Or.inl ⟨by rfl, by intro w hSw; clear hSw; go_simp⟩) (by assumption) ?_
   (try simp only [pT])
   refine qab (i := 36) (v := .pointer (some ⟨br, 0, none⟩)) rfl (by kernel_rfl) (fun _ _ _ h => h) (Or.inl ⟨by rfl, by intro w hSw; clear hSw; go_simp⟩) (by assumption) ?_
   (try simp only [pT])
   refine qab (i := 37) (v := .pointer (some ⟨br, 0, none⟩)) rfl (by kernel_rfl) (fun _ _ _ h => h) (Or.inl ⟨by rfl, by intro w hSw; clear hSw; go_simp⟩) (by assumption) ?_
   (try simp only [pT])
   refine qab (i := 38) (v := .pointer (some ⟨br, 3, none⟩)) rfl (by kernel_rfl) (fun _ _ _ h => h) (Or.inl ⟨by rfl, by intro w hSw; clear hSw; go_simp⟩) (by assumption) ?_
   (try simp only [pT])
   refine qab (i := 39) (v := .slice y.A len y.c) rfl (by kernel_rfl) (fun _ _ _ h => h) (Or.inl ⟨by rfl, by intro w hSw; have hSx := hSw.1; clear hSw; go_simp⟩) (by assumption) ?_
   (try simp only [pT])
   refine qab (i := 40) (v := .int .i64 ↑len) rfl (by kernel_rfl) (fun _ _ _ h => h) (Or.inl ⟨by rfl, by intro w hSw; clear hSw; go_simp⟩) (by assumption) ?_
   (try simp only [pT])
   refine qab (i := 41) (v := .pointer (some ⟨br, 0, none⟩)) rfl (by kernel_rfl) (fun _ _ _ h => h) (Or.inl ⟨by rfl, by intro w hSw; clear hSw; go_simp⟩) (by assumption) ?_
   (try simp only [pT])
   refine qab (i := 42) (v := .pointer (some ⟨br, 0, none⟩)) rfl (by kernel_rfl) (fun _ _ _ h => h) (Or.inl ⟨by rfl, by intro w hSw; clear hSw; go_simp⟩) (by assumption) ?_
   (try simp only [pT])
   refine qab (i := 43) (v := .pointer (some ⟨br, 0, none⟩)) rfl (by kernel_rfl) (fun _ _ _ h => h) (Or.inl ⟨by rfl, by intro w hSw; clear hSw; go_simp⟩) (by assumption) ?_
   (try simp only [pT])
   refine qab (i := 44) (v := .int .i64 st.bound) rfl (by kernel_rfl) (fun _ _ _ h => h) (Or.inl ⟨by rfl, by intro w hSw; have hSx := hSw.2.2.2; clear hSw; go_simp⟩) (by assumption) ?_
   (try simp only [pT])
   refine qab (i := 45) (v := .bool (decide (st.bound ≤ (len : Int)))) rfl (by kernel_rfl) (fun _ _ _ h => h) (Or.inl ⟨by rfl, by intro w hSw; clear hSw; go_simp⟩) (by assumption) ?_
   (try simp only [pT])
   refine qan (i := 35) rfl (by kernel_rfl) (fun K hK => ?_)
   go_simp
   refine (HFUL.out _ HBX5.out).mono ?_
   rintro e w' ⟨rfl, hb⟩
   dsimp only
   have HBX6 := Lib.hid (HBX5.out.trans (hb.mono HBX5.out.size))
   clear hb
   replace hHeld := HSO.out _ HBX6.out
   refine hK.out _ _ hHeld ?_
   clear hK K
   (try simp only [pT])
   refine qab (i := 46) (v := .bool false) rfl (by kernel_rfl) (fun _ _ _ h => h) (Or.inl ⟨by rfl, by intro w hSw; clear hSw; go_simp⟩) (by assumption) ?_
   (try simp only [pT])
   refine qab (i := 47) (v := .bool false) rfl (by kernel_rfl) (fun _ _ _ h => h) (Or.inl ⟨by rfl, by intro w hSw; clear hSw; go_simp⟩) (by assumption) ?_
   (try simp only [pT])
   refine qab (i := 48) (v := .bool false) rfl (by kernel_rfl) (fun _ _ _ h => h) (Or.inl ⟨by rfl, by intro w hSw; clear hSw; go_simp⟩) (by assumption) ?_
   (try simp only [pT])
   refine qab (i := 49) (v := .bool true) rfl (by kernel_rfl) (fun _ _ _ h => h) (Or.inl ⟨by rfl, by intro w hSw; clear hSw; go_simp⟩) (by assumption) ?_
   (try simp only [pT])
   refine qab (i := 50) (v := .pointer (some ⟨br, 0, none⟩)) rfl (by kernel_rfl) (fun _ _ _ h => h) (Or.inl ⟨by rfl, by intro w hSw; clear hSw; go_simp⟩) (by assumption) ?_
   (try simp only [pT])
   refine qab (i := 51) (v := .pointer (some ⟨br, 0, none⟩)) rfl (by kernel_rfl) (fun _ _ _ h => h) (Or.inl ⟨by rfl, by intro w hSw; clear hSw; go_simp⟩) (by assumption) ?_
   (try simp only [pT])
   refine qab (i := 52) (v := .pointer (some ⟨br, 3, none⟩)) rfl (by kernel_rfl) (fun _ _ _ h => h) (Or.inl ⟨by rfl, by intro w hSw; clear hSw; go_simp⟩) (by assumption) ?_
   (try simp only [pT])
   refine qab (i := 53) (v := .slice y.A len y.c) rfl (by kernel_rfl) (fun _ _ _ h => h) (Or.inl ⟨by rfl, by intro w hSw; have hSx := hSw.1; clear hSw; go_simp⟩) (by assumption) ?_
   (try simp only [pT])
   refine qab (i := 54) (v := .int .i64 ↑len) rfl (by kernel_rfl) (fun _ _ _ h => h) (Or.inl ⟨by rfl, by intro w hSw; clear hSw; go_simp⟩) (by assumption) ?_
   (try simp only [pT])
   refine qab (i := 55) (v := .bool true) rfl (by kernel_rfl) (fun _ _ _ h => h) (Or.inl ⟨by rfl, by intro w hSw; clear hSw; go_simp⟩) (by assumption) ?_
   (try simp only [pT])
   refine qab (i := 56) (v := .bool false) rfl (by kernel_rfl) (fun _ _ _ h => h) (Or.inl ⟨by rfl, by intro w hSw; clear hSw; go_simp⟩) (by assumption) ?_
   (try simp only [pT])
   refine qab (i := 57) (v := .bool false) rfl (by kernel_rfl) (fun _ _ _ h => h) (Or.inl ⟨by rfl, by intro w hSw; clear hSw; go_simp⟩) (by assumption) ?_
   (try simp only [pT])
   refine qaG (n := 58) (by kernel_rfl) ?_
   simp only [List.drop_succ_cons, List.drop_zero, List.drop_nil]
   clear hHeld HLEN HRDY HRRD HLST HCOM HFUL
   obtain ⟨b2, o2, e0, -, hc2⟩ := HP1.out.r.row.2.2 (show 0 < st.L.length from HLP.out)
   have e2 : y.A = some ⟨b2, o2, none⟩ := e0
   have hc3 : V1.rangeAt b2 o2 (qah y.Hs[0]!) := fun i u hu => by
    have := hc2 0 (show 0 < st.L.length from HLP.out) i u hu
    rwa [Nat.zero_mul, Nat.add_zero] at this
   have HSP := Lib.hid (fun (V : World) (hV : Below V1.heap.size V1 V) => (show V.rangeAt w4.heap.size 0 (qah ha) ∧ V.cell? ⟨br, 3, none⟩ = some (.slice (some ⟨b2, o2, none⟩) len y.c) ∧ V.rangeAt b2 o2 (qah y.Hs[0]!) from
    ⟨qal (pre := []) (mid := qah ha) (post := []) ((hV.block _ (by have := HZ4.out; omega)).trans HGA.out) (by simp) rfl, by rw [← e2]; exact (HSO.out V hV).1, qaZ hc3 hV⟩))
   have HCS := Lib.hid (fun (V : World) (hV : Below V1.heap.size V1 V) => qbR st.L[0]! ha y.Hs[0]! V _ _ (HAT.out.fr (R' := (w3.heap.size ≤ ·)) (Fr.of_below (own := []) (HB5.out.trans (hV.mono HB5.out.size))) (fun b _ h => ⟨by simp, h⟩)) ((HPl.out V hV).r.els 0 HLP.out) (HP1.out.ia.sm 0 HLP.out))
   clear hc2 hc3 HSO e0 e2
   generalize y.Hs[0]! = h2 at *
   have HB7 := HBX6
   have hl0' : (0 : Int) < (len : Int) := by omega
   have HPf := Lib.hid (HPl.out _ HBX6.out)
   clear HBX0 HBX1 HBX2 HBX3 HBX4 HBX5
   go_upto_region 16 with fail
   refine qaN (S := fun V => V.rangeAt w4.heap.size 0 (qah ha) ∧ V.cell? ⟨br, 3, none⟩ = some (.slice (some ⟨b2, o2, none⟩) len y.c) ∧ V.rangeAt b2 o2 (qah h2)) 9 (by kernel_rfl) (HSP.out _ (HB7.out.trans ((qaj _).mono HB7.out.size))) (fun hHeld => ?_)
   refine qab (i := 0) (v := .agg (qah ha).toArray) rfl (by kernel_rfl) (fun _ _ _ h => h) (yieldsIf_load_mid (by rfl) 63 _ rfl w4.heap.size 0 rfl (qah ha) _ (fun _ h => h.1) qbm rfl qaF) (by assumption) ?_
   (try simp only [pT])
   refine qab (i := 1) (v := .pointer (some ⟨br, 0, none⟩)) rfl (by kernel_rfl) (fun _ _ _ h => h) (Or.inl ⟨by rfl, by intro w hSw; clear hSw; go_simp⟩) (by assumption) ?_
   (try simp only [pT])
   refine qab (i := 2) (v := .pointer (some ⟨br, 0, none⟩)) rfl (by kernel_rfl) (fun _ _ _ h => h) (Or.inl ⟨by rfl, by intro w hSw; clear hSw; go_simp⟩) (by assumption) ?_
   (try simp only [pT])
   refine qab (i := 3) (v := .pointer (some ⟨br, 3, none⟩)) rfl (by kernel_rfl) (fun _ _ _ h => h) (Or.inl ⟨by rfl, by intro w hSw; clear hSw; go_simp⟩) (by assumption) ?_
   (try simp only [pT])
   refine qab (i := 4) (v := .slice (some ⟨b2, o2, none⟩) len y.c) rfl (by kernel_rfl) (fun _ _ _ h => h) (Or.inl ⟨by rfl, by intro w hSw; have hSx := hSw.2.1; clear hSw; go_simp⟩) (by assumption) ?_
   (try simp only [pT])
   refine qab (i := 5) (v := .pointer (some ⟨b2, o2, none⟩)) rfl (by kernel_rfl) (fun _ _ _ h => h) (Or.inl ⟨by rfl, by intro w hSw; clear hSw; go_simp⟩) (by assumption) ?_
   (try simp only [pT])
   refine qab (i := 6) (v := .agg (qah h2).toArray) rfl (by kernel_rfl) (fun _ _ _ h => h) (yieldsIf_load_mid (by rfl) 94 _ rfl b2 o2 rfl (qah h2) _ (fun _ h => h.2.2) qcY rfl qcm) (by assumption) ?_
   (try simp only [pT])
   refine qan (i := 7) rfl (by kernel_rfl) (fun K hK => ?_)
   go_simp
   refine (HCS.out _ (HB7.out.trans ((qaj _).mono HB7.out.size))).mono ?_
   rintro e w8 ⟨rfl, hb8⟩
   dsimp only
   have HB8 := Lib.hid ((HB7.out.trans ((qaj _).mono HB7.out.size)).trans (hb8.mono (HB7.out.trans ((qaj _).mono HB7.out.size)).size))
   replace hHeld := HSP.out _ HB8.out
   refine hK.out _ _ hHeld ?_
   clear hK K hb8
   (try simp only [pT])
   refine qab (i := 8) (v := .bool false) rfl (by kernel_rfl) (fun _ _ _ h => h) (Or.inl ⟨by rfl, by intro w hSw; clear hSw; go_simp⟩) (by assumption) ?_
   (try simp only [pT])
   refine qaG (n := 9) (by kernel_rfl) ?_
   simp only [List.drop_succ_cons, List.drop_zero, List.drop_nil]
   have HB48 := Lib.hid (HB5.out.trans (HB8.out.mono HB5.out.size))
   have HSS := Lib.hid (show SpS w8 w4.heap.size (fun b => w3.heap.size ≤ b ∧ b < w4.heap.size) ha w8 from
    ⟨(HB8.out.block _ (by have := HZ4.out; omega)).trans HGA.out, fun h => by have := h.2; omega, HNF.out.fr (Fr.of_below (own := []) HB48.out) (fun b hlt h => ⟨by simp, h, hlt⟩), ⟨[], Fr.refl _ _, fun g hg => by cases hg⟩⟩)
   have HSC := Lib.hid (qdH w8 w4.heap.size _ ha HSS.out (HAT.out.fr (R' := (w3.heap.size ≤ ·)) (Fr.of_below (own := []) HB48.out) (fun b _ h => ⟨by simp, h⟩)) (HP1.out.ia.sm 0 HLP.out))
   have HP8 := Lib.hid (HPl.out w8 HB8.out)
   clear hHeld HSP HCS HSS HB48 HPl HPf HP1
   go_wp2_with fail
   refine HSC.out.mono ?_
   rintro e w9 ⟨rfl, ho⟩
   have HPF := Lib.hid (HP8.out.only HAW.out ho)
   clear ho HSC HP8
   go_wp2_with fail
   go_roundw
   case rel => exact ⟨j + 1, st, x, R, y, Q, by go_num, by omega, HV9.out, HPF.out⟩
   case measure => simp [intOf]; omega
 ·obtain rfl : j = n0 := by omega
  go_wp2_with fail
  go_ret
  exact RetB.mk HP.out.b rfl
end Go.Proofs.YtbpmmmnphpkdjaaGreatDoor

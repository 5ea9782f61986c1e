/- The law QueueWeights. Condition: bulk at most 2^20. -/
import Derived.Test.YtbpmmmnphpkdjaaGreatDoorWStpB
import Derived.Test.YtbpmmmnphpkdjaaGreatDoorWPlsW
import Derived.Test.YtbpmmmnphpkdjaaGreatDoorWWgt
import Derived.Test.YtbpmmmnphpkdjaaGreatDoorWVto
namespace Go.Proofs.YtbpmmmnphpkdjaaGreatDoor
set_option linter.unusedSimpArgs false
set_option maxRecDepth 100000
set_option maxHeartbeats 20000000
open Go.RowKit Go.MapKept Go.Maps
/-- a condition that says more serves too -/
theorem qel {P : Program} {md : Region.Mode} {ops : Array Oper} {Q : Exit → Act → World → Prop} {S S' : World → Prop} {m : Nat} (h : ∀ w, S' w → S w) : ∀ (f : Nat) (listed : Array Bool) (a : Act) (w : World), qbK P md ops Q S' m f listed a w → qbK P md ops Q S m f listed a w
 | 0, _, _, _, h0 => h0
 | f + 1, _, _, _, h0 => ⟨h0.1, fun i hi => wpOp_mono (fun _ _ h' => ⟨fun him => h _ (h'.1 him), qel h f _ _ _ h'.2⟩) (h0.2 i hi)⟩
theorem qlS {bound : Int} {l : List VtV} (h1 : 0 ≤ bound) (h2 : bound ≤ 4096) (h3 : l.length ≤ 9) (hg : ∀ v ∈ l, wfI v.1) : QuInv (newW bound l) :=
 ⟨⟨h1, h2⟩, h1, by simpa [newW] using h3, List.Pairwise.nil, fun z hz => by simp [newW, zxs] at hz, ⟨Int.le_refl _, Int.le_refl _⟩, fun i hi => by
  have hi' : i < l.length := by simpa [newW] using hi
  rw [show (newW bound l).acked = List.replicate l.length 0 from rfl, getElem!_pos _ i (by simpa using hi')]; simp [newW], fun i hi => by simp [newW] at hi, hg⟩
theorem queueWeights_any (bound : Int) (A0 : Option Addr) (n0 c0 : Nat) (l0 : List VtV) (A1 : Option Addr) (n1 c1 : Nat) (l1 : List QoV) (w : World) (hE : Env w)
  (o0 : Sl w w.heap.size encVt 2 A0 n0 l0) (z0 : n0 ≤ 1048576) (g0 : ∀ v ∈ l0, wfI v.1) (o1 : Sl w w.heap.size (fun z : QoV => encQo z.1 z.2.1) 48 A1 n1 l1) (z1 : n1 ≤ 1048576) (q1 : ∀ j, j < n1 → QoOk w 1048576 l1[j]!) :
  Calls Tryz.prog 10 #[.int .i64 bound, .slice A0 n0 c0, .slice A1 n1 c1] w (RetB w true) := by
 have HE := Lib.hid hE; have HO0 := Lib.hid o0; have HO1 := Lib.hid o1; have HQ1 := Lib.hid q1; have HG0 := Lib.hid g0
 have HM := Lib.hid (qmE A0 n0 c0 l0 w o0 z0)
 have HZ0 := Lib.hid z0
 clear hE o0 o1 q1 g0 z0
 go_enter Tryz.func10, Tryz.ntmps10
 go_wp2_with fail
 refine HM.out.mono ?_
 rintro e w1 ⟨⟨A2, c2, rfl, hown⟩, hb1⟩
 have HB1 := Lib.hid hb1; have HOW := Lib.hid hown
 have HR2 := Lib.hid (qbD hown (fun _ => rfl) HO0.out.len)
 have HS2 := Lib.hid (HR2.out.sl (fun _ => by simp [encVt]))
 clear hb1 hown HM
 by_cases hok : fitB l0 = true ∧ 0 ≤ bound ∧ bound ≤ 4096
 rotate_left
 ·have hbad : fitB l0 = false ∨ bound < 0 ∨ 4096 < bound := by
   cases hf : fitB l0 with
   | false => exact .inl rfl
   | true => exact .inr (by have : ¬ (0 ≤ bound ∧ bound ≤ 4096) := fun h => hok ⟨hf, h⟩
                            omega)
  have HN := Lib.hid (qiq bound A2 n0 c2 l0 w1 HS2.out HG0.out hbad)
  have HBAD := Lib.hid hbad
  clear hok hbad
  go_wp2_with fail
  refine HN.out.mono ?_
  rintro e w2 ⟨rfl, hb2⟩
  have HB2 := Lib.hid (HB1.out.trans (hb2.mono HB1.out.size))
  have HM := Lib.hid (qfY A0 n0 c0 l0 w2 (HO0.out.belowMore HB2.out HB2.out.size) HZ0.out)
  clear hb2 HN
  go_wp2_with fail
  refine HM.out.mono ?_
  rintro e w3 ⟨⟨A3, c3, rfl, hown⟩, hb3⟩
  have HB3 := Lib.hid (HB2.out.trans (hb3.mono HB2.out.size))
  have HN := Lib.hid (qgj bound A3 n0 c3 l0 w3 ((qbD hown (fun _ => rfl) HO0.out.len).sl (fun _ => by simp [encVt])) HZ0.out HBAD.out)
  clear hb3 hown HM
  go_wp2_with fail
  refine HN.out.mono ?_
  rintro e w4 ⟨rfl, hb4⟩
  have HB4 := Lib.hid (HB3.out.trans (hb4.mono HB3.out.size))
  have HLV := Lib.hid (qdT w4 (HE.out.below (Nat.le_refl _) HB4.out))
  clear hb4 HN
  go_wp2_with fail
  refine (qcW _ _).mono ?_
  rintro e w' ⟨rfl, rfl⟩
  go_wp2_with fail
  refine HLV.out.mono ?_
  rintro e w5 ⟨rfl, hb5⟩
  have HB5 := Lib.hid (HB4.out.trans (hb5.mono HB4.out.size))
  clear hb5 HLV
  go_wp2_with fail
  go_ret
  exact RetB.mk HB5.out rfl
 have HV := Lib.hid hok
 clear hok
 have HN := Lib.hid (qiH bound A2 n0 c2 l0 w1 HS2.out HR2.out.hd.1 HG0.out HV.out.1 HV.out.2.1 HV.out.2.2)
 go_wp2_with fail
 refine HN.out.mono ?_
 rintro e w2 ⟨⟨bq, x, R, rfl, hq, g1, g2, g3, g4⟩, hb2⟩
 have HB2 := Lib.hid hb2; have HQW := Lib.hid hq; have HGQ := Lib.hid (And.intro g1 (And.intro g2 (And.intro g3 g4)))
 have HB2' := Lib.hid (HB1.out.trans (hb2.mono HB1.out.size))
 have HM := Lib.hid (qfY A0 n0 c0 l0 w2 (HO0.out.belowMore HB2'.out HB2'.out.size) HZ0.out)
 clear hb2 hq g1 g2 g3 g4 HN
 go_wp2_with fail
 refine HM.out.mono ?_
 rintro e w3 ⟨⟨A3, c3, rfl, hown⟩, hb3⟩
 have HB3 := Lib.hid hb3
 have HR3 := Lib.hid (qbD hown (fun _ => rfl) HO0.out.len)
 have HN := Lib.hid (qgh w.heap.size bound A3 n0 c3 l0 w3 (Nat.le_trans HB2'.out.size hb3.size) (HR3.out.sl (fun _ => by simp [encVt])) HR3.out.hd.1 HV.out.1 HV.out.2.1 HV.out.2.2)
 clear hb3 hown HM
 go_wp2_with fail
 refine HN.out.mono ?_
 rintro e w4 ⟨⟨br, y, Q, rfl, hr, k1, k2, k3⟩, hb4⟩
 have hb4' := hb4.size; have hb3' := HB3.out.size
 have HP := Lib.hid (PlE.made HB1.out HQW.out ⟨HGQ.out.1, HGQ.out.2.1, HGQ.out.2.2.1⟩ HB2.out hr ⟨by omega, by omega, fun b hb => by have := k3 b hb; omega⟩ (HB3.out.trans (hb4.mono hb3')) (qlS HV.out.2.1 HV.out.2.2 (qdP HV.out.1) HG0.out))
 have HLV := Lib.hid (qdT w4 (HE.out.below (Nat.le_refl _) HP.out.b))
 have HAW := Lib.hid (show Away w bq br x R y Q (fun b => w.heap.size ≤ b ∧ b < w1.heap.size) from fun g hg => by
  have h1 := HGQ.out; have h2 := hg.2; have h3 := HB2.out.size
  exact ⟨by simp; omega, fun h => by have := h1.2.2.2 g h; omega, by omega, by omega, fun h => by have := k3 g h; omega, hg.1⟩)
 have HB14 := Lib.hid (show Below w1.heap.size w1 w4 from HB2.out.trans ((HB3.out.trans (hb4.mono hb3')).mono HB2.out.size))
 clear hr k1 k2 k3 hb4 hb4' hb3' HN HQW HGQ HB2 HB2' HB3 HR3
 go_wp2_with fail
 refine (qcW _ _).mono ?_
 rintro e w' ⟨rfl, rfl⟩
 go_wp2_with fail
 refine HLV.out.mono ?_
 rintro e w5 ⟨rfl, hb5⟩
 have HP5 := Lib.hid (HP.out.later hb5)
 have HNF := Lib.hid (show SlN w5 (fun b => w.heap.size ≤ b ∧ b < w1.heap.size) 2 (A2, n0, c2) from
  (SlN.own (B := w.heap.size) HOW.out (Nat.le_refl _)).fr (Fr.of_below (own := []) (HB14.out.trans (hb5.mono HB14.out.size))) (fun b hlt h => ⟨by simp, h, hlt⟩) (by decide))
 have HHD := Lib.hid (show HdA (A2, n0, c2) from HR2.out.hda)
 have HV9 := Lib.hid (show (newW bound l0).vs.length ≤ 9 from qdP HV.out.1)
 clear hb5 HLV HP HB14 HB1 HOW HR2 HS2 HV
 generalize newW bound l0 = st0 at *
 have hz0 := HZ0.out
 go_wp2_with fail
 go_loopw [12] (fun i wr => ∃ j : Nat, i = .int .i64 ↑j ∧ j ≤ n0 ∧ PlE w wr bq br st0 st0 x R y Q ∧ SlN wr (fun b => w.heap.size ≤ b ∧ b < w1.heap.size) 2 (A2, n0, c2)) (fun i _ => n0 - (intOf i).toNat)
 case atStart => exact ⟨0, rfl, Nat.zero_le _, HP5.out, HNF.out⟩
 case round =>
 clear HP5 HNF
 obtain ⟨j, rfl, hj, hp, hnf⟩ := hrel
 have HP := Lib.hid hp; have HNF := Lib.hid hnf
 clear hp hnf
 by_cases hlt : j < n0
 ·obtain ⟨b, off, e⟩ := HHD.out (show 0 < n0 by omega)
  have e : A2 = some ⟨b, off, none⟩ := e
  subst e
  have HR := Lib.hid (HNF.out.cell (b := b) (off := off) rfl (j := j) (i := 1) hlt (by decide))
  obtain ⟨u, hx⟩ := HR.out.2.1
  have hf := HR.out.2.2
  have hji : (j : Int) < (n0 : Int) := by omega
  have hj0 : (0 : Int) ≤ (j : Int) := by omega
  go_wp2_with fail
  have HPF := Lib.hid (HP.out.only HAW.out (w' := wr.setCell ⟨b, off + j * 2 + 1, none⟩ (.int .i64 0)) ⟨[b], qaE _ _ _ _, fun g hg => by rw [List.mem_singleton.1 hg]; exact HR.out.1⟩)
  go_roundw
  case rel => exact ⟨j + 1, by go_num, by omega, HPF.out, HNF.out.put_ _ _ _⟩
  case measure => show n0 - ((↑j + 1 : Int)).toNat < n0 - (↑j : Int).toNat; omega
 obtain rfl : j = n0 := by omega
 clear hj hlt HNF HHD HAW hz0
 go_wp2_with fail
 go_loopw [13] (fun i wr => ∃ (j : Nat) (st : QuT) (x : QuX) (R : Nat → Prop) (y : RqX) (Q : Nat → Prop), i = .int .i64 ↑j ∧ j ≤ n1 ∧ st.vs.length ≤ 9 ∧ PlE w wr bq br st st x R y Q) (fun i _ => n1 - (intOf i).toNat)
 case atStart => exact ⟨0, st0, x, R, y, Q, rfl, Nat.zero_le _, HV9.out, HP.out⟩
 case round =>
 clear HP HV9
 obtain ⟨j, st, x, R, y, Q, rfl, hj, hv9, hp⟩ := hrel
 have HP := Lib.hid hp; have HV9 := Lib.hid hv9
 clear hp hv9
 by_cases hlt : j < n1
 ·have ⟨b, off, eb, _, hcb⟩ := HO1.out.cells hlt
  have HQ := Lib.hid (HQ1.out j hlt)
  have HRG := Lib.hid (show ∀ V : World, Below w.heap.size w V → V.rangeAt b (off + j * 48) (encQo l1[j]!.1 l1[j]!.2.1) from fun V hV i u hu => qaC (hcb i u hu) hV)
  have hji : (j : Int) < (n1 : Int) := by omega
  have hj0 : (0 : Int) ≤ (j : Int) := by omega
  clear hcb
  subst eb
  generalize l1[j]! = z at *
  obtain ⟨⟨k, on, oz⟩, h, p⟩ := z
  have HS := Lib.hid (fun (V : World) (hV : Below wr.heap.size wr V) => qmu w V HE.out bq br st x R y Q (HP.out.later hV) HV9.out k on oz h p HQ.out.2.1 HQ.out.2.2)
  go_upto_region 15 with fail
  refine qaP (S := fun V => V.rangeAt b (off + j * 48) (encQo (k, on, oz) h)) 43 (by kernel_rfl) (HRG.out _ (HP.out.later (qaj wr)).b) (fun hHeld => ?_)
  refine qad (i := 0) (v := .pointer (some ⟨bq, 0, none⟩)) rfl (by kernel_rfl) (fun _ _ _ h => h) (Or.inl ⟨by rfl, by intro w hSw; clear hSw; go_simp⟩) (by assumption) ?_
  (try simp only [pT])
  refine qad (i := 1) (v := .pointer (some ⟨br, 0, none⟩)) rfl (by kernel_rfl) (fun _ _ _ h => h) (Or.inl ⟨by rfl, by intro w hSw; clear hSw; go_simp⟩) (by assumption) ?_
  (try simp only [pT])
  refine qad (i := 2) (v := .slice (some ⟨b, off, none⟩) n1 c1) rfl (by kernel_rfl) (fun _ _ _ h => h) (Or.inl ⟨by rfl, by intro w hSw; clear hSw; go_simp⟩) (by assumption) ?_
  (try simp only [pT])
  refine qad (i := 3) (v := .int .i64 ↑j) rfl (by kernel_rfl) (fun _ _ _ h => h) (Or.inl ⟨by rfl, by intro w hSw; clear hSw; go_simp⟩) (by assumption) ?_
  (try simp only [pT])
  refine qad (i := 4) (v := .pointer (some ⟨b, off + j * 48, none⟩)) rfl (by kernel_rfl) (fun _ _ _ h => h) (Or.inl ⟨by rfl, by intro w hSw; clear hSw; go_simp⟩) (by assumption) ?_
  (try simp only [pT])
  refine qad (i := 5) (v := .agg (encQo (k, on, oz) h).toArray) rfl (by kernel_rfl) (fun _ _ _ h => h) (yieldsIf_load_mid (by rfl) 77 _ rfl b (off + j * 48) rfl (encQo (k, on, oz) h) _ (fun _ h => h) qnb rfl qmX) (by assumption) ?_
  (try simp only [pT])
  refine qaq (i := 6) rfl (by kernel_rfl) (fun K hK => ?_)
  go_simp
  refine (HS.out _ (qaj wr)).mono ?_
  clear HS HP HV9 x R y Q st
  rintro e w3 ⟨rfl, st, x, R, y, Q, hv9, hp⟩
  dsimp only
  have HP1 := Lib.hid hp; have HV9 := Lib.hid hv9
  clear hp hv9
  refine hK.out _ _ (HRG.out _ HP1.out.b) ?_
  clear hK K
  (try simp only [pT])
  obtain ⟨len, hln⟩ : ∃ len : Nat, st.L.length = len := ⟨_, rfl⟩
  have HLN := Lib.hid hln
  clear hln
  have HPl := Lib.hid (fun (V : World) (hV : Below w3.heap.size w3 V) => HP1.out.later hV)
  have HLEN := Lib.hid (fun (V : World) (hV : Below w3.heap.size w3 V) => show Calls Tryz.prog 26 #[.pointer (some ⟨bq, 0, none⟩)] V (fun e w' => e = .returned (.int .i64 (len : Int)) ∧ Below V.heap.size V w') from (qcL bq x R st V (HPl.out V hV).q.q).mono (fun _ _ h => ⟨by rw [h.1, HLN.out] <;> rfl, h.bl.2⟩))
  have HRDY := Lib.hid (fun (V : World) (hV : Below w3.heap.size w3 V) => qou (HPl.out V hV).q (HPl.out V hV).ia)
  have HRRD := Lib.hid (fun (V : World) (hV : Below w3.heap.size w3 V) => qcr V w.heap.size br y Q st (HPl.out V hV).r (HPl.out V hV).ib (by have := HV9.out; omega))
  have HLST := Lib.hid (fun (V : World) (hV : Below w3.heap.size w3 V) => (qij bq x R st V (HPl.out V hV).q.q).mono (fun _ _ h => h.bl))
  have HCOM := Lib.hid (fun (V : World) (hV : Below w3.heap.size w3 V) => (qfr bq x R st V (HPl.out V hV).q.q).mono (fun _ _ h => h.bl))
  have HFUL := Lib.hid (fun (V : World) (hV : Below w3.heap.size w3 V) => show Calls Tryz.prog 34 #[.pointer (some ⟨bq, 0, none⟩)] V (fun e w' => e = .returned (.bool (decide (st.bound ≤ (len : Int)))) ∧ Below V.heap.size V w') from (qdM bq x R st V (HPl.out V hV).q.q).mono (fun _ _ h => ⟨by rw [h.1, HLN.out] <;> rfl, h.bl.2⟩))
  have HSO := Lib.hid (fun (V : World) (hV : Below w3.heap.size w3 V) => (show V.cell? ⟨br, 3, none⟩ = some (.slice y.A len y.c) ∧ V.cell? ⟨br, 4, none⟩ = some (.int .i64 st.last) ∧ V.cell? ⟨br, 5, none⟩ = some (.int .i64 st.committed) ∧ V.rangeAt b (off + j * 48) (encQo (k, on, oz) h) from
   ⟨by rw [← HLN.out, qaf (HPl.out V hV).r.box]; rfl, by rw [qaf (HPl.out V hV).r.box]; rfl, by rw [qaf (HPl.out V hV).r.box]; rfl, HRG.out V (HPl.out V hV).b⟩))
  have HBX0 := Lib.hid (Below.refl w3.heap.size w3)
  replace hHeld := HSO.out w3 (Below.refl _ _)
  refine qel (S' := fun V => V.cell? ⟨br, 3, none⟩ = some (.slice y.A len y.c) ∧ V.cell? ⟨br, 4, none⟩ = some (.int .i64 st.last) ∧ V.cell? ⟨br, 5, none⟩ = some (.int .i64 st.committed) ∧ V.rangeAt b (off + j * 48) (encQo (k, on, oz) h)) (fun _ h => h.2.2.2) _ _ _ _ ?_
  refine qad (i := 7) (v := .bool false) rfl (by kernel_rfl) (fun _ _ _ h => h) (Or.inl ⟨by rfl, by intro w hSw; clear hSw; go_simp⟩) (by assumption) ?_
  (try simp only [pT])
  refine qad (i := 8) (v := .bool false) rfl (by kernel_rfl) (fun _ _ _ h => h) (Or.inl ⟨by rfl, by intro w hSw; clear hSw; go_simp⟩) (by assumption) ?_
  (try simp only [pT])
  refine qad (i := 9) (v := .pointer (some ⟨bq, 0, none⟩)) rfl (by kernel_rfl) (fun _ _ _ h => h) (Or.inl ⟨by rfl, by intro w hSw; clear hSw; go_simp⟩) (by assumption) ?_
  (try simp only [pT])
  refine qad (i := 11) (v := .pointer (some ⟨br, 0, none⟩)) rfl (by kernel_rfl) (fun _ _ _ h => h) (Or.inl ⟨by rfl, by intro w hSw; clear hSw; go_simp⟩) (by assumption) ?_
  (try simp only [pT])
  refine qaq (i := 10) rfl (by kernel_rfl) (fun K hK => ?_)
  go_simp
  refine (HRDY.out _ HBX0.out).mono ?_
  rintro e w' ⟨rfl, hb⟩
  dsimp only
  have HBX1 := Lib.hid (HBX0.out.trans (hb.mono HBX0.out.size))
  clear hb
  replace hHeld := HSO.out _ HBX1.out
  refine hK.out _ _ hHeld ?_
  clear hK K
  (try simp only [pT])
  refine qaq (i := 12) rfl (by kernel_rfl) (fun K hK => ?_)
  go_simp
  refine (HRRD.out _ HBX1.out).mono ?_
  rintro e w' ⟨rfl, hb⟩
  dsimp only
  have HBX2 := Lib.hid (HBX1.out.trans (hb.mono HBX1.out.size))
  clear hb
  replace hHeld := HSO.out _ HBX2.out
  refine hK.out _ _ hHeld ?_
  clear hK K
  (try simp only [pT])
  refine qad (i := 13) (v := .bool false) rfl (by kernel_rfl) (fun _ _ _ h => h) (Or.inl ⟨by rfl, by intro w hSw; clear hSw; go_simp⟩) (by assumption) ?_
  (try simp only [pT])
  refine qad (i := 14) (v := .bool false) rfl (by kernel_rfl) (fun _ _ _ h => h) (Or.inl ⟨by rfl, by intro w hSw; clear hSw; go_simp⟩) (by assumption) ?_
  (try simp only [pT])
  refine qad (i := 15) (v := .bool false) rfl (by kernel_rfl) (fun _ _ _ h => h) (Or.inl ⟨by rfl, by intro w hSw; clear hSw; go_simp⟩) (by assumption) ?_
  (try simp only [pT])
  refine qad (i := 16) (v := .pointer (some ⟨bq, 0, none⟩)) rfl (by kernel_rfl) (fun _ _ _ h => h) (Or.inl ⟨by rfl, by intro w hSw; clear hSw; go_simp⟩) (by assumption) ?_
  (try simp only [pT])
  refine qad (i := 18) (v := .pointer (some ⟨br, 0, none⟩)) rfl (by kernel_rfl) (fun _ _ _ h => h) (Or.inl ⟨by rfl, by intro w hSw; clear hSw; go_simp⟩) (by assumption) ?_
  (try simp only [pT])
  refine qad (i := 19) (v := .pointer (some ⟨br, 0, none⟩)) rfl (by kernel_rfl) (fun _ _ _ h => h) (Or.inl ⟨by rfl, by intro w hSw; clear hSw; go_simp⟩) (by assumption) ?_
  (try simp only [pT])
  refine qad (i := 20) (v := .pointer (some ⟨br, 3, none⟩)) rfl (by kernel_rfl) (fun _ _ _ h => h) (Or.inl ⟨by rfl, by intro w hSw; clear hSw; go_simp⟩) (by assumption) ?_
  (try simp only [pT])
  refine qad (i := 21) (v := .slice y.A len y.c) rfl (by kernel_rfl) (fun _ _ _ h => h) (Or.inl ⟨by rfl, by intro w hSw; have hSx := hSw.1; clear hSw; go_simp⟩) (by assumption) ?_
  (try simp only [pT])
  refine qad (i := 22) (v := .int .i64 ↑len) rfl (by kernel_rfl) (fun _ _ _ h => h) (Or.inl ⟨by rfl, by intro w hSw; clear hSw; go_simp⟩) (by assumption) ?_
  (try simp only [pT])
  refine qaq (i := 17) rfl (by kernel_rfl) (fun K hK => ?_)
  go_simp
  refine (HLEN.out _ HBX2.out).mono ?_
  rintro e w' ⟨rfl, hb⟩
  dsimp only
  have HBX3 := Lib.hid (HBX2.out.trans (hb.mono HBX2.out.size))
  clear hb
  replace hHeld := HSO.out _ HBX3.out
  refine hK.out _ _ hHeld ?_
  clear hK K
  (try simp only [pT])
  refine qad (i := 23) (v := .bool false) rfl (by kernel_rfl) (fun _ _ _ h => h) (Or.inl ⟨by rfl, by intro w hSw; clear hSw; go_simp⟩) (by assumption) ?_
  (try simp only [pT])
  refine qad (i := 24) (v := .bool false) rfl (by kernel_rfl) (fun _ _ _ h => h) (Or.inl ⟨by rfl, by intro w hSw; clear hSw; go_simp⟩) (by assumption) ?_
  (try simp only [pT])
  refine qad (i := 25) (v := .bool false) rfl (by kernel_rfl) (fun _ _ _ h => h) (Or.inl ⟨by rfl, by intro w hSw; clear hSw; go_simp⟩) (by assumption) ?_
  (try simp only [pT])
  refine qad (i := 26) (v := .pointer (some ⟨bq, 0, none⟩)) rfl (by kernel_rfl) (fun _ _ _ h => h) (Or.inl ⟨by rfl, by intro w hSw; clear hSw; go_simp⟩) (by assumption) ?_
  (try simp only [pT])
  refine qad (i := 28) (v := .pointer (some ⟨br, 0, none⟩)) rfl (by kernel_rfl) (fun _ _ _ h => h) (Or.inl ⟨by rfl, by intro w hSw; clear hSw; go_simp⟩) (by assumption) ?_
  (try simp only [pT])
  refine qad (i := 29) (v := .pointer (some ⟨br, 0, none⟩)) rfl (by kernel_rfl) (fun _ _ _ h => h) (Or.inl ⟨by rfl, by intro w hSw; clear hSw; go_simp⟩) (by assumption) ?_
  (try simp only [pT])
  refine qad (i := 30) (v := .pointer (some ⟨br, 4, none⟩)) rfl (by kernel_rfl) (fun _ _ _ h => h) (Or.inl ⟨by rfl, by intro w hSw; clear hSw; go_simp⟩) (by assumption) ?_
  (try simp only [pT])
  refine qad (i := 31) (v := .int .i64 st.last) rfl (by kernel_rfl) (fun _ _ _ h => h) (Or.inl ⟨by rfl, by intro w hSw; have hSx := hSw.2.1; clear hSw; go_simp⟩) (by assumption) ?_
  (try simp only [pT])
  refine qaq (i := 27) rfl (by kernel_rfl) (fun K hK => ?_)
  go_simp
  refine (HLST.out _ HBX3.out).mono ?_
  rintro e w' ⟨rfl, hb⟩
  dsimp only
  have HBX4 := Lib.hid (HBX3.out.trans (hb.mono HBX3.out.size))
  clear hb
  replace hHeld := HSO.out _ HBX4.out
  refine hK.out _ _ hHeld ?_
  clear hK K
  (try simp only [pT])
  refine qad (i := 32) (v := .bool false) rfl (by kernel_rfl) (fun _ _ _ h => h) (Or.inl ⟨by rfl, by intro w hSw; clear hSw; go_simp⟩) (by assumption) ?_
  (try simp only [pT])
  refine qad (i := 33) (v := .bool false) rfl (by kernel_rfl) (fun _ _ _ h => h) (Or.inl ⟨by rfl, by intro w hSw; clear hSw; go_simp⟩) (by assumption) ?_
  (try simp only [pT])
  refine qad (i := 34) (v := .bool false) rfl (by kernel_rfl) (fun _ _ _ h => h) (Or.inl ⟨by rfl, by intro w hSw; clear hSw; go_simp⟩) (by assumption) ?_
  (try simp only [pT])
  refine qad (i := 35) (v := .pointer (some ⟨bq, 0, none⟩)) rfl (by kernel_rfl) (fun _ _ _ h => h) (Or.inl ⟨by rfl, by intro w hSw; clear hSw; go_simp⟩) (by assumption) ?_
  (try simp only [pT])
  refine qad (i := 37) (v := .pointer (some ⟨br, 0, none⟩)) rfl (by kernel_rfl) (fun _ _ _ h => h) (Or.inl ⟨by rfl, by intro w hSw; clear hSw; go_simp⟩) (by assumption) ?_
  (try simp only [pT])
  refine qad (i := 38) (v := .pointer (some ⟨br, 0, none⟩)) rfl (by kernel_rfl) (fun _ _ _ h => h) (Or.inl ⟨by rfl, by intro w hSw; clear hSw; go_simp⟩) (by assumption) ?_
  (try simp only [pT])
  refine qad (i := 39) (v := .pointer (some ⟨br, 5, none⟩)) rfl (by kernel_rfl) (fun _ _ _ h => h) (Or.inl ⟨by rfl, by intro w hSw; clear hSw; go_simp⟩) (by assumption) ?_
  (try simp only [pT])
  refine qad (i := 40) (v := .int .i64 st.committed) rfl (by kernel_rfl) (fun _ _ _ h => h) (Or.inl ⟨by rfl, by intro w hSw; have hSx := hSw.2.2.1; clear hSw; go_simp⟩) (by assumption) ?_
  (try simp only [pT])
  refine qaq (i := 36) rfl (by kernel_rfl) (fun K hK => ?_)
  go_simp
  refine (HCOM.out _ HBX4.out).mono ?_
  rintro e w' ⟨rfl, hb⟩
  dsimp only
  have HBX5 := Lib.hid (HBX4.out.trans (hb.mono HBX4.out.size))
  clear hb
  replace hHeld := HSO.out _ HBX5.out
  refine hK.out _ _ hHeld ?_
  clear hK K
  (try simp only [pT])
  refine qad (i := 41) (v := .bool false) rfl (by kernel_rfl) (fun _ _ _ h => h) (Or.inl ⟨by rfl, by intro w hSw; clear hSw; go_simp⟩) (by assumption) ?_
  (try simp only [pT])
  refine qad (i := 42) (v := .bool false) rfl (by kernel_rfl) (fun _ _ _ h => h) (Or.inl ⟨by rfl, by intro w hSw; clear hSw; go_simp⟩) (by assumption) ?_
  (try simp only [pT])
  refine qaG (n := 43) (by kernel_rfl) ?_
  simp only [List.drop_succ_cons, List.drop_zero, List.drop_nil]
  have HPF := Lib.hid (HPl.out _ HBX5.out)
  clear hHeld HLEN HRDY HRRD HLST HCOM HFUL HSO HPl HP1
  go_wp2_with fail
  go_roundw
  case rel => exact ⟨j + 1, st, x, R, y, Q, by go_num, by omega, HV9.out, HPF.out⟩
  case measure => show n1 - ((↑j + 1 : Int)).toNat < n1 - (↑j : Int).toNat; omega
 ·obtain rfl : j = n1 := by omega
  go_wp2_with fail
  go_ret
  exact RetB.mk HP.out.b rfl
end Go.Proofs.YtbpmmmnphpkdjaaGreatDoor

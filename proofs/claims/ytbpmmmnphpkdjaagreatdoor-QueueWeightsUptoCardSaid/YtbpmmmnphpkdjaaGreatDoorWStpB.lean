/- The walk of the law's step: acknowledgements, commits, clears, looks. Condition: lists of at most 2^20. -/
import Derived.Test.YtbpmmmnphpkdjaaGreatDoorWStpA
import Derived.Test.YtbpmmmnphpkdjaaGreatDoorWAsk
namespace Go.Proofs.YtbpmmmnphpkdjaaGreatDoor
set_option linter.unusedSimpArgs false
set_option maxRecDepth 100000
set_option maxHeartbeats 20000000
open Go.RowKit Go.MapKept Go.Maps
theorem qkk (w0 w : World) (bq br : Nat) (st : QuT) (x : QuX) (R : Nat → Prop) (y : RqX) (Q : Nat → Prop) (H : PlE w0 w bq br st st x R y Q) (hv9 : st.vs.length ≤ 9) (on oz : Int) (h : PrH) :
  Calls Tryz.prog 30 #[.pointer (some ⟨bq, 0, none⟩), .pointer (some ⟨br, 0, none⟩), .agg (encQo (2, on, oz) h).toArray] w (StpP w0 bq br) := by
 have HH := Lib.hid H
 have HG := Lib.hid (qab w (.cells (encQo (2, on, oz) h).toArray 77))
 have HB1 := Lib.hid (show Below w.heap.size w (w.alloc (.cells (encQo (2, on, oz) h).toArray 77)) from (Below.refl _ w).alloc (Nat.le_refl _) _)
 have HZ1 := Lib.hid (sz1 w (.cells (encQo (2, on, oz) h).toArray 77))
 have HV9 := Lib.hid hv9
 have HAL := Lib.hid (show ∀ g, w.heap.size ≤ g → g ∉ [bq, x.gr, x.ga, br, y.gv] from fun g hg => by
  have h1 := H.new (P := fun b => w.heap.size ≤ b) (fun _ h => h) g hg
  have h2 := h1.1
  simp only [List.mem_cons, List.not_mem_nil, or_false, not_or] at h2 ⊢
  exact ⟨h2.1, h2.2.1, h2.2.2, h1.2.2.1, h1.2.2.2.1⟩)
 clear H hv9
 go_enter Tryz.func30, Tryz.ntmps30
 go_upto_region 1 with fail
 generalize w.alloc (.cells (encQo (2, on, oz) h).toArray 77) = W at *
 have k0 : W.cell? ⟨w.heap.size, 0, none⟩ = some (.int .i64 2) := by rw [qaf HG.out]; rfl
 have HPl := Lib.hid (HH.out.later HB1.out)
 have HC1 := Lib.hid (fun (V : World) (hV : Fr [bq, x.gr, x.ga, br, y.gv] W V) => show V.cell? ⟨w.heap.size, 1, none⟩ = some (.int .i64 on) from by rw [qaf ((hV.block _ (by have := HZ1.out; omega) (HAL.out _ (Nat.le_refl _))).trans HG.out)]; rfl)
 have HC2 := Lib.hid (fun (V : World) (hV : Fr [bq, x.gr, x.ga, br, y.gv] W V) => show V.cell? ⟨w.heap.size, 2, none⟩ = some (.int .i64 oz) from by rw [qaf ((hV.block _ (by have := HZ1.out; omega) (HAL.out _ (Nat.le_refl _))).trans HG.out)]; rfl)
 have k1 := HC1.out W (Fr.refl _ _); have k2 := HC2.out W (Fr.refl _ _)
 have HA := Lib.hid (ackW on oz HPl.out.q HPl.out.ia)
 go_wp2_with fail
 refine HA.out.mono ?_
 rintro e w3 ⟨rfl, hs3⟩
 obtain ⟨x3, R3, h3, -, -⟩ := PlE.stepA HPl.out hs3 (qfj HPl.out.ia on oz)
 have H3 := Lib.hid h3
 have HF3 := Lib.hid (show Fr [bq, x.gr, x.ga, br, y.gv] W w3 from qoA hs3.2 (fun g hg => by simp at hg ⊢; omega))
 clear hs3 h3 k1 k2 HA
 have k1 := HC1.out w3 HF3.out; have k2 := HC2.out w3 HF3.out
 have HA := Lib.hid (qjl on oz w3 w0.heap.size br y Q st H3.out.r H3.out.ib (by have := HV9.out; omega))
 go_wp2_with fail
 refine HA.out.mono ?_
 rintro e w4 ⟨rfl, hs4⟩
 obtain ⟨y4, Q4, h4, -⟩ := PlE.stepB H3.out hs4 (qfj H3.out.ib on oz)
 have H4 := Lib.hid h4
 have HF4 := Lib.hid (show StpP w0 bq br (.returned (.bool true)) w4 from ⟨rfl, ackT st on oz, x3, R3, y4, Q4, by rw [qnS]; exact HV9.out, h4⟩)
 clear hs4 h4 k1 k2 HA H3 H4
 generalize (rdN (ackT st on oz) : Int) - rdN st = d at *
 generalize ackC st on oz = c at *
 go_wp2_with fail
 refine (qcW _ _).mono ?_
 rintro e w' ⟨rfl, rfl⟩
 go_wp2_with fail
 go_ret
 exact HF4.out
theorem qlw (w0 w : World) (bq br : Nat) (st : QuT) (x : QuX) (R : Nat → Prop) (y : RqX) (Q : Nat → Prop) (H : PlE w0 w bq br st st x R y Q) (hv9 : st.vs.length ≤ 9) (on oz : Int) (h : PrH) :
  Calls Tryz.prog 30 #[.pointer (some ⟨bq, 0, none⟩), .pointer (some ⟨br, 0, none⟩), .agg (encQo (3, on, oz) h).toArray] w (StpP w0 bq br) := by
 have HH := Lib.hid H
 have HG := Lib.hid (qab w (.cells (encQo (3, on, oz) h).toArray 77))
 have HB1 := Lib.hid (show Below w.heap.size w (w.alloc (.cells (encQo (3, on, oz) h).toArray 77)) from (Below.refl _ w).alloc (Nat.le_refl _) _)
 have HZ1 := Lib.hid (sz1 w (.cells (encQo (3, on, oz) h).toArray 77))
 have HV9 := Lib.hid hv9
 have HAL := Lib.hid (show ∀ g, w.heap.size ≤ g → g ∉ [bq, x.gr, x.ga, br, y.gv] from fun g hg => by
  have h1 := H.new (P := fun b => w.heap.size ≤ b) (fun _ h => h) g hg
  have h2 := h1.1
  simp only [List.mem_cons, List.not_mem_nil, or_false, not_or] at h2 ⊢
  exact ⟨h2.1, h2.2.1, h2.2.2, h1.2.2.1, h1.2.2.2.1⟩)
 clear H hv9
 go_enter Tryz.func30, Tryz.ntmps30
 go_upto_region 1 with fail
 generalize w.alloc (.cells (encQo (3, on, oz) h).toArray 77) = W at *
 have k0 : W.cell? ⟨w.heap.size, 0, none⟩ = some (.int .i64 3) := by rw [qaf HG.out]; rfl
 have HPl := Lib.hid (HH.out.later HB1.out)
 have HA := Lib.hid (qjy HPl.out.q HPl.out.ia)
 go_wp2_with fail
 refine HA.out.mono ?_
 rintro e w3 ⟨⟨ha, rfl, hp1, hn1⟩, hs3⟩
 obtain ⟨x3, R3, h3, hR3, -⟩ := PlE.stepA HPl.out hs3 (qeI HPl.out.ia)
 have HGA := Lib.hid (qab w3 (.cells (qah ha).toArray 63))
 have hb3 : Below w3.heap.size w3 (w3.alloc (.cells (qah ha).toArray 63)) := (Below.refl _ w3).alloc (Nat.le_refl _) _
 have HZ3 := Lib.hid (sz1 w3 (.cells (qah ha).toArray 63))
 have H3 := Lib.hid (h3.later hb3)
 have HPA := Lib.hid (show 0 < rdN st → PrAt (w3.alloc (.cells (qah ha).toArray 63)) R ha st.L[0]! ∧ True from fun h0 => ⟨(hp1 h0).fr (Fr.of_below (own := []) hb3) (fun b _ hb => ⟨by simp, hb⟩), trivial⟩)
 have HNA := Lib.hid hn1
 have HRB := Lib.hid (show ¬ R br ∧ ¬ R y.gv from HPl.out.s2)
 have HLT := Lib.hid (show w3.heap.size ≠ br ∧ w3.heap.size ≠ y.gv from ⟨Nat.ne_of_gt h3.r.bl, Nat.ne_of_gt h3.r.vl⟩)
 clear hs3 h3 hR3 hp1 hn1 hb3 HA
 go_upto_region 13 with (first
  | (apply qai 63 63; exact rfl; exact rfl; exact rfl; (first | (with_reducible rfl) | (exact sz1 _ _) | (exact sz2 _ _ _) | (exact sz3 _ _ _ _)); exact rfl; exact qaI; exact rfl; (first | exact qbo _ | simp [Value.oneCell']))
  | fail)
 change Code.wp _ _ _ _ (w3.alloc (.cells (qah ha).toArray 63))
 generalize w3.alloc (.cells (qah ha).toArray 63) = V3 at *
 have HA := Lib.hid (show Calls Tryz.prog 76 #[.pointer (some ⟨br, 0, none⟩)] V3 (qfO w0.heap.size br y Q st V3) from by
  by_cases h0 : 0 < rdN st
  ·exact qhn V3 w0.heap.size br y Q st H3.out.r H3.out.ib (by have := HV9.out; omega) h0
  ·exact qhU V3 w0.heap.size br y Q st H3.out.r H3.out.ib (by have := HV9.out; omega) h0)
 go_wp2_with fail
 refine HA.out.mono ?_
 rintro e w4 ⟨⟨hb, rfl, hp2, hn2⟩, hs4⟩
 obtain ⟨y4, Q4, h4, -⟩ := PlE.stepB H3.out hs4 (qeI H3.out.ib)
 have HGB := Lib.hid (qab w4 (.cells (qah hb).toArray 94))
 have hb4 : Below w4.heap.size w4 (w4.alloc (.cells (qah hb).toArray 94)) := (Below.refl _ w4).alloc (Nat.le_refl _) _
 have H4 := Lib.hid (h4.later hb4)
 have HGA4 := Lib.hid (show (w4.alloc (.cells (qah hb).toArray 94)).heap[w3.heap.size]? = some (.cells (qah ha).toArray 63 (0, 0)) from (hb4.block _ (by have := hs4.2.size; have := HZ3.out; omega)).trans ((hs4.2.block _ (by have := HZ3.out; omega) (by have := HLT.out; simp; omega)).trans HGA.out))
 have HSM := Lib.hid (show ∃ (Ra : Nat → Prop) (Rb : Nat → Prop) (p : PrT), PrAt (w4.alloc (.cells (qah hb).toArray 94)) Ra ha p ∧ PrAt (w4.alloc (.cells (qah hb).toArray 94)) Rb hb p ∧ PrSm 1048576 p from by
  by_cases h0 : 0 < rdN st
  ·refine ⟨R, (· < w0.heap.size), st.L[0]!, ?_, ?_, H3.out.ib.sm 0 (Nat.lt_of_lt_of_le h0 (qdj st))⟩
   ·refine ((HPA.out h0).1.fr (R' := R) hs4.2 (fun b _ hr => ⟨?_, hr⟩)).fr (Fr.of_below (own := []) hb4) (fun b _ hr => ⟨by simp, hr⟩)
    simp only [List.mem_cons, List.not_mem_nil, or_false]
    rintro (rfl | rfl)
    ·exact HRB.out.1 hr
    ·exact HRB.out.2 hr
   ·exact (hp2 h0).fr (Fr.of_below (own := []) hb4) (fun b _ hr => ⟨by simp, hr⟩)
  ·rw [HNA.out h0, hn2 h0]
   exact ⟨fun _ => True, fun _ => True, qeU, qcD _ _, qcD _ _, qeO⟩)
 have HFN := Lib.hid (show ∀ V, Below (w4.alloc (.cells (qah hb).toArray 94)).heap.size (w4.alloc (.cells (qah hb).toArray 94)) V → StpP w0 bq br (.returned (.bool true)) V from fun V hV => ⟨rfl, qbX st, x3, R3, y4, Q4, by rw [qlL]; exact HV9.out, H4.out.later hV⟩)
 clear hs4 h4 hp2 hn2 hb4 HA H3 H4 HPA HNA HRB HLT HGA HPl HZ3
 go_upto_region 14 with (first
  | (apply qai 94 94; exact rfl; exact rfl; exact rfl; (first | (with_reducible rfl) | (exact sz1 _ _) | (exact sz2 _ _ _) | (exact sz3 _ _ _ _)); exact rfl; exact qcu; exact rfl; (first | exact qbo _ | simp [Value.oneCell']))
  | fail)
 change Code.wp _ _ _ _ (w4.alloc (.cells (qah hb).toArray 94))
 generalize w4.alloc (.cells (qah hb).toArray 94) = V4 at *
 generalize decide (0 < rdN st) = is at *
 obtain ⟨Ra, Rb, pp, ta, tb, hsm⟩ := HSM.out
 have HCS := Lib.hid (qce pp ha hb V4 Ra Rb ta tb hsm)
 have y1 := qal (pre := []) (mid := qah ha) (post := []) HGA4.out (by simp) rfl
 have y2 := qal (pre := []) (mid := qah hb) (post := []) HGB.out (by simp) rfl
 clear ta tb hsm HSM
 go_wp2_with (first
  | (apply qbm 63; (first | rfl | simp [Region.wanted, yielded]); exact rfl; exact rfl; exact y1; exact qbq; exact rfl; exact qaI)
  | (apply qbm 94; (first | rfl | simp [Region.wanted, yielded]); exact rfl; exact rfl; exact y2; exact qdn; exact rfl; exact qcu)
  | fail)
 refine HCS.out.mono ?_
 rintro e w5 ⟨rfl, hb5⟩
 have HF5 := Lib.hid (HFN.out w5 hb5)
 clear hb5 HCS y1 y2
 go_wp2_with fail
 go_ret
 exact HF5.out
theorem qkH (w0 w : World) (bq br : Nat) (st : QuT) (x : QuX) (R : Nat → Prop) (y : RqX) (Q : Nat → Prop) (H : PlE w0 w bq br st st x R y Q) (hv9 : st.vs.length ≤ 9) (on oz : Int) (h : PrH) :
  Calls Tryz.prog 30 #[.pointer (some ⟨bq, 0, none⟩), .pointer (some ⟨br, 0, none⟩), .agg (encQo (4, on, oz) h).toArray] w (StpP w0 bq br) := by
 have HH := Lib.hid H
 have HG := Lib.hid (qab w (.cells (encQo (4, on, oz) h).toArray 77))
 have HB1 := Lib.hid (show Below w.heap.size w (w.alloc (.cells (encQo (4, on, oz) h).toArray 77)) from (Below.refl _ w).alloc (Nat.le_refl _) _)
 have HZ1 := Lib.hid (sz1 w (.cells (encQo (4, on, oz) h).toArray 77))
 have HV9 := Lib.hid hv9
 have HAL := Lib.hid (show ∀ g, w.heap.size ≤ g → g ∉ [bq, x.gr, x.ga, br, y.gv] from fun g hg => by
  have h1 := H.new (P := fun b => w.heap.size ≤ b) (fun _ h => h) g hg
  have h2 := h1.1
  simp only [List.mem_cons, List.not_mem_nil, or_false, not_or] at h2 ⊢
  exact ⟨h2.1, h2.2.1, h2.2.2, h1.2.2.1, h1.2.2.2.1⟩)
 clear H hv9
 go_enter Tryz.func30, Tryz.ntmps30
 go_upto_region 1 with fail
 generalize w.alloc (.cells (encQo (4, on, oz) h).toArray 77) = W at *
 have k0 : W.cell? ⟨w.heap.size, 0, none⟩ = some (.int .i64 4) := by rw [qaf HG.out]; rfl
 have HPl := Lib.hid (HH.out.later HB1.out)
 have HA := Lib.hid (qoJ HPl.out.q HPl.out.ia)
 go_wp2_with fail
 refine HA.out.mono ?_
 rintro e w3 ⟨⟨A, c, Hs, rfl, hrow, hHl, hHt⟩, hs3⟩
 obtain ⟨x3, R3, h3, -, -⟩ := PlE.stepA HPl.out hs3 (qfR HPl.out.ia)
 have HRA := Lib.hid (qbD hrow qbB hHl)
 have HTA := Lib.hid hHt
 have H3 := Lib.hid h3
 have HRB := Lib.hid (show ¬ R br ∧ ¬ R y.gv from HPl.out.s2)
 have HLT := Lib.hid (show br < W.heap.size ∧ y.gv < W.heap.size from ⟨HPl.out.r.bl, HPl.out.r.vl⟩)
 clear hs3 h3 hrow hHl hHt HA
 have HA := Lib.hid (qhQ w3 w0.heap.size br y Q st H3.out.r H3.out.ib.a9)
 go_wp2_with fail
 refine HA.out.mono ?_
 rintro e w4 ⟨rfl, hs4⟩
 obtain ⟨y4, Q4, h4, -⟩ := PlE.stepB H3.out hs4 (qfR H3.out.ib)
 have HKB := Lib.hid (H3.out.r.rowK hs4.2)
 have HKA := Lib.hid (show SlR w4 (fun b => W.heap.size ≤ b) qah 45 (A, st.L.length, c) Hs ∧ ∀ j, j < st.L.length → PrAt w4 R Hs[j]! st.L[j]! from
  ⟨HRA.out.fr hs4.2 (fun b _ hb => ⟨by have := HLT.out; simp; omega, hb⟩) (fun _ => by rw [qbB]; decide), fun j hj => (HTA.out j hj).fr hs4.2 (fun b _ hb => ⟨by
   simp only [List.mem_cons, List.not_mem_nil, or_false]
   rintro (rfl | rfl)
   ·exact HRB.out.1 hb
   ·exact HRB.out.2 hb, hb⟩)⟩)
 have HFN := Lib.hid (show ∀ V, Below w4.heap.size w4 V → StpP w0 bq br (.returned (.bool true)) V from fun V hV => ⟨rfl, qcx st, x3, R3, y4, Q4, HV9.out, h4.later hV⟩)
 have HSM := Lib.hid H3.out.ib.sm
 have HN4 := Lib.hid H3.out.ib.l4
 clear hs4 h4 HA H3 HRA HTA HRB HLT HPl HG HB1 HZ1 HAL HH HV9
 generalize st.L.length = n at *
 go_wp2_with fail
 go_loopw [19] (fun i wr => ∃ j : Nat, i = .int .i64 ↑j ∧ j ≤ n ∧ Below w4.heap.size w4 wr) (fun i _ => n - (intOf i).toNat)
 case atStart => exact ⟨0, rfl, Nat.zero_le _, Below.refl _ _⟩
 case round =>
 obtain ⟨j, rfl, hj, hbr⟩ := hrel
 have HBR := Lib.hid hbr
 clear hbr
 have hn4 := HN4.out
 by_cases hlt : j < n
 ·obtain ⟨b1, o1, e1, -, hc1⟩ := HKA.out.1.2.2 (show 0 < n by omega)
  obtain ⟨b2, o2, e2, -, hc2⟩ := HKB.out.1.2.2 (show 0 < n by omega)
  have e1 : A = some ⟨b1, o1, none⟩ := e1
  have e2 : y.A = some ⟨b2, o2, none⟩ := e2
  have HSO := Lib.hid (fun (V : World) (hV : Below w4.heap.size w4 V) => (show V.rangeAt b1 (o1 + j * 45) (qah Hs[j]!) ∧ V.rangeAt b2 (o2 + j * 45) (qah y.Hs[j]!) from ⟨qbf (fun i u hu => hc1 j hlt i u hu) hV, qbf (fun i u hu => hc2 j hlt i u hu) hV⟩))
  have HCS := Lib.hid (fun (V : World) (hV : Below w4.heap.size w4 V) => qce st.L[j]! Hs[j]! y.Hs[j]! V _ _ ((HKA.out.2 j hlt).fr (R' := R) (Fr.of_below (own := []) hV) (fun b _ h => ⟨by simp, h⟩)) ((HKB.out.2 j hlt).fr (R' := (· < w0.heap.size)) (Fr.of_below (own := []) hV) (fun b _ h => ⟨by simp, h⟩)) (HSM.out j hlt))
  clear hc1 hc2
  generalize Hs[j]! = h1 at *
  generalize y.Hs[j]! = h2 at *
  subst e1
  have HY := Lib.hid e2
  rw [HY.out]
  clear e2
  have hji : (j : Int) < (n : Int) := by omega
  have hj0 : (0 : Int) ≤ (j : Int) := by omega
  go_upto_region 23 with fail
  refine qaP (S := fun V => V.rangeAt b1 (o1 + j * 45) (qah h1) ∧ V.rangeAt b2 (o2 + j * 45) (qah h2)) 10 (by kernel_rfl) (HSO.out _ (HBR.out.trans ((qaj wr).mono HBR.out.size))) (fun hHeld => ?_)
  refine qad (i := 0) (v := .slice (some ⟨b1, o1, none⟩) n c) rfl (by kernel_rfl) (fun _ _ _ h => h) (Or.inl ⟨by rfl, by intro w hSw; clear hSw; go_simp⟩) (by assumption) ?_
  (try simp only [pT])
  refine qad (i := 1) (v := .int .i64 ↑j) rfl (by kernel_rfl) (fun _ _ _ h => h) (Or.inl ⟨by rfl, by intro w hSw; clear hSw; go_simp⟩) (by assumption) ?_
  (try simp only [pT])
  refine qad (i := 2) (v := .pointer (some ⟨b1, o1 + j * 45, none⟩)) rfl (by kernel_rfl) (fun _ _ _ h => h) (Or.inl ⟨by rfl, by intro w hSw; clear hSw; go_simp⟩) (by assumption) ?_
  (try simp only [pT])
  refine qad (i := 3) (v := .agg (qah h1).toArray) rfl (by kernel_rfl) (fun _ _ _ h => h) (yieldsIf_load_mid (by rfl) 63 _ rfl b1 (o1 + j * 45) rfl (qah h1) _ (fun _ h => h.1) qbq rfl qaI) (by assumption) ?_
  (try simp only [pT])
  refine qad (i := 4) (v := .slice (some ⟨b2, o2, none⟩) n y.c) rfl (by kernel_rfl) (fun _ _ _ h => h) (Or.inl ⟨by rfl, by intro w hSw; clear hSw; go_simp⟩) (by assumption) ?_
  (try simp only [pT])
  refine qad (i := 5) (v := .int .i64 ↑j) rfl (by kernel_rfl) (fun _ _ _ h => h) (Or.inl ⟨by rfl, by intro w hSw; clear hSw; go_simp⟩) (by assumption) ?_
  (try simp only [pT])
  refine qad (i := 6) (v := .pointer (some ⟨b2, o2 + j * 45, none⟩)) rfl (by kernel_rfl) (fun _ _ _ h => h) (Or.inl ⟨by rfl, by intro w hSw; clear hSw; go_simp⟩) (by assumption) ?_
  (try simp only [pT])
  refine qad (i := 7) (v := .agg (qah h2).toArray) rfl (by kernel_rfl) (fun _ _ _ h => h) (yieldsIf_load_mid (by rfl) 94 _ rfl b2 (o2 + j * 45) rfl (qah h2) _ (fun _ h => h.2) qdn rfl qcu) (by assumption) ?_
  (try simp only [pT])
  refine qaq (i := 8) rfl (by kernel_rfl) (fun K hK => ?_)
  go_simp
  refine (HCS.out _ (HBR.out.trans ((qaj wr).mono HBR.out.size))).mono ?_
  rintro e w6 ⟨rfl, hb6⟩
  dsimp only
  have HB6 := Lib.hid ((HBR.out.trans ((qaj wr).mono HBR.out.size)).trans (hb6.mono (HBR.out.trans ((qaj wr).mono HBR.out.size)).size))
  replace hHeld := HSO.out _ HB6.out
  refine hK.out _ _ hHeld ?_
  clear hK K hb6
  (try simp only [pT])
  refine qad (i := 9) (v := .bool false) rfl (by kernel_rfl) (fun _ _ _ h => h) (Or.inl ⟨by rfl, by intro w hSw; clear hSw; go_simp⟩) (by assumption) ?_
  (try simp only [pT])
  refine qaG (n := 10) (by kernel_rfl) ?_
  simp only [List.drop_succ_cons, List.drop_zero, List.drop_nil]
  clear hHeld HSO HCS
  go_wp2_with fail
  go_roundw
  case rel => exact ⟨j + 1, by go_num, by omega, HB6.out⟩
  case measure => show n - ((↑j + 1 : Int)).toNat < n - (↑j : Int).toNat; omega
 ·obtain rfl : j = n := by omega
  have HF5 := Lib.hid (HFN.out wr HBR.out)
  go_wp2_with fail
  go_ret
  exact HF5.out
theorem qkO (w0 w : World) (bq br : Nat) (st : QuT) (x : QuX) (R : Nat → Prop) (y : RqX) (Q : Nat → Prop) (H : PlE w0 w bq br st st x R y Q) (hv9 : st.vs.length ≤ 9) (on oz : Int) (h : PrH) :
  Calls Tryz.prog 30 #[.pointer (some ⟨bq, 0, none⟩), .pointer (some ⟨br, 0, none⟩), .agg (encQo (5, on, oz) h).toArray] w (StpP w0 bq br) := by
 have HH := Lib.hid H
 have HG := Lib.hid (qab w (.cells (encQo (5, on, oz) h).toArray 77))
 have HB1 := Lib.hid (show Below w.heap.size w (w.alloc (.cells (encQo (5, on, oz) h).toArray 77)) from (Below.refl _ w).alloc (Nat.le_refl _) _)
 have HZ1 := Lib.hid (sz1 w (.cells (encQo (5, on, oz) h).toArray 77))
 have HV9 := Lib.hid hv9
 have HAL := Lib.hid (show ∀ g, w.heap.size ≤ g → g ∉ [bq, x.gr, x.ga, br, y.gv] from fun g hg => by
  have h1 := H.new (P := fun b => w.heap.size ≤ b) (fun _ h => h) g hg
  have h2 := h1.1
  simp only [List.mem_cons, List.not_mem_nil, or_false, not_or] at h2 ⊢
  exact ⟨h2.1, h2.2.1, h2.2.2, h1.2.2.1, h1.2.2.2.1⟩)
 clear H hv9
 go_enter Tryz.func30, Tryz.ntmps30
 go_upto_region 1 with fail
 generalize w.alloc (.cells (encQo (5, on, oz) h).toArray 77) = W at *
 have k0 : W.cell? ⟨w.heap.size, 0, none⟩ = some (.int .i64 5) := by rw [qaf HG.out]; rfl
 have HPl := Lib.hid (HH.out.later HB1.out)
 have HA := Lib.hid (qkY w0 W bq br st x R y Q HPl.out 5 on oz h)
 have y1 := qal (pre := []) (mid := encQo (5, on, oz) h) (post := []) HG.out (by simp) rfl
 go_wp2_with (first
  | (apply qau 77; exact rfl; exact rfl; exact rfl; exact y1; exact qnb; exact rfl; exact qmX)
  | fail)
 refine HA.out.mono ?_
 rintro e w3 ⟨rfl, h3⟩
 have HF := Lib.hid (show StpP w0 bq br (.returned (.bool true)) w3 from ⟨rfl, st, x, R, y, Q, HV9.out, h3⟩)
 clear h3 HA
 go_wp2_with fail
 go_ret
 exact HF.out
theorem qlx (w0 w : World) (bq br : Nat) (st : QuT) (x : QuX) (R : Nat → Prop) (y : RqX) (Q : Nat → Prop) (H : PlE w0 w bq br st st x R y Q) (hv9 : st.vs.length ≤ 9) (k on oz : Int) (h : PrH) (h1 : k ≠ 1) (h2 : k ≠ 2) (h3 : k ≠ 3) (h4 : k ≠ 4) (h5 : k ≠ 5) :
  Calls Tryz.prog 30 #[.pointer (some ⟨bq, 0, none⟩), .pointer (some ⟨br, 0, none⟩), .agg (encQo (k, on, oz) h).toArray] w (StpP w0 bq br) := by
 have HH := Lib.hid H
 have HG := Lib.hid (qab w (.cells (encQo (k, on, oz) h).toArray 77))
 have HB1 := Lib.hid (show Below w.heap.size w (w.alloc (.cells (encQo (k, on, oz) h).toArray 77)) from (Below.refl _ w).alloc (Nat.le_refl _) _)
 have HZ1 := Lib.hid (sz1 w (.cells (encQo (k, on, oz) h).toArray 77))
 have HV9 := Lib.hid hv9
 have HAL := Lib.hid (show ∀ g, w.heap.size ≤ g → g ∉ [bq, x.gr, x.ga, br, y.gv] from fun g hg => by
  have h1 := H.new (P := fun b => w.heap.size ≤ b) (fun _ h => h) g hg
  have h2 := h1.1
  simp only [List.mem_cons, List.not_mem_nil, or_false, not_or] at h2 ⊢
  exact ⟨h2.1, h2.2.1, h2.2.2, h1.2.2.1, h1.2.2.2.1⟩)
 clear H hv9
 go_enter Tryz.func30, Tryz.ntmps30
 go_upto_region 1 with fail
 generalize w.alloc (.cells (encQo (k, on, oz) h).toArray 77) = W at *
 have k0 : W.cell? ⟨w.heap.size, 0, none⟩ = some (.int .i64 k) := by rw [qaf HG.out]; rfl
 have HPl := Lib.hid (HH.out.later HB1.out)
 have t1 : (k == 1) = false := beq_eq_false_iff_ne.2 h1
 have t2 : (k == 2) = false := beq_eq_false_iff_ne.2 h2
 have t3 : (k == 3) = false := beq_eq_false_iff_ne.2 h3
 have t4 : (k == 4) = false := beq_eq_false_iff_ne.2 h4
 have t5 : (k == 5) = false := beq_eq_false_iff_ne.2 h5
 have HF := Lib.hid (show StpP w0 bq br (.returned (.bool true)) W from ⟨rfl, st, x, R, y, Q, HV9.out, HPl.out⟩)
 clear h1 h2 h3 h4 h5
 go_wp2_with fail
 go_ret
 exact HF.out
theorem qmu (w0 w : World) (hE : Env w0) (bq br : Nat) (st : QuT) (x : QuX) (R : Nat → Prop) (y : RqX) (Q : Nat → Prop) (H : PlE w0 w bq br st st x R y Q) (hv9 : st.vs.length ≤ 9) (k on oz : Int) (h : PrH) (p : PrT) (hp : PrAt w0 (· < w0.heap.size) h p) (hsm : PrSm 1048576 p) :
  Calls Tryz.prog 30 #[.pointer (some ⟨bq, 0, none⟩), .pointer (some ⟨br, 0, none⟩), .agg (encQo (k, on, oz) h).toArray] w (StpP w0 bq br) := by
 by_cases h1 : k = 1
 ·subst h1; exact qll w0 w hE bq br st x R y Q H hv9 on oz h p hp hsm
 by_cases h2 : k = 2
 ·subst h2; exact qkk w0 w bq br st x R y Q H hv9 on oz h
 by_cases h3 : k = 3
 ·subst h3; exact qlw w0 w bq br st x R y Q H hv9 on oz h
 by_cases h4 : k = 4
 ·subst h4; exact qkH w0 w bq br st x R y Q H hv9 on oz h
 by_cases h5 : k = 5
 ·subst h5; exact qkO w0 w bq br st x R y Q H hv9 on oz h
 exact qlx w0 w bq br st x R y Q H hv9 k on oz h h1 h2 h3 h4 h5
end Go.Proofs.YtbpmmmnphpkdjaaGreatDoor

/- The walk of the ring's put. Condition: a ring of at most 8192 places. The walk of the queue's Push. Condition: a queue of at most 4096 proposals; a proposal whose lists have at most 2^20. -/
import Derived.Test.YtbpmmmnphpkdjaaGreatDoorZQueC
import Derived.Laws.MakeOwn
import Derived.Test.YtbpmmmnphpkdjaaGreatDoorZDltF
namespace Go.Proofs.YtbpmmmnphpkdjaaGreatDoor
open Go.RowKit Go.MapKept Go.Maps
def PutP (bq : Nat) (x : QuX) (R : Nat → Prop) (st' : QuT) (w : World) (e : Ending) (w' : World) : Prop :=
  e = .returned (.tuple #[]) ∧ (∃ x', QuAt w' bq x' R st' ∧ x'.ga = x.ga ∧ x'.aA = x.aA ∧ (x'.gr = x.gr ∨ w.heap.size ≤ x'.gr) ∧ x'.cap ≤ 8192) ∧ Fr [bq, x.gr] w w'
/-- ahead of the store: there is room -/
structure PtS (bq : Nat) (x : QuX) (R : Nat → Prop) (st : QuT) (h : PrH) (p : PrT) (w wx : World) (A : Option Addr) (gr cap first : Nat) : Prop where
  q : QuAt wx bq (x.ring A gr cap first) R st
  room : st.L.length < cap
  c8 : cap ≤ 8192
  grOk : gr = x.gr ∨ w.heap.size ≤ gr
  ne : gr ≠ w.heap.size
  fr : Fr [bq, x.gr] w wx
  bx : wx.heap[w.heap.size]? = some (.cells (encPr h).toArray 63 (0, 0))
  p : PrAt wx R h p
theorem infoPr2 : (Tryz.prog.info? 63).map (fun i => (i.zero.isSome, i.size, decide (i.bytes ≤ 4096))) = some (true, 45, true) := by kernel_rfl
theorem make_pr (m : Nat) (hm : m ≤ 16384) : ∃ cs : List Value, cs.length = m * 45 ∧ ∀ W : World, (Instr.makeSlice 79 (.int .i64 ↑m) (.int .i64 ↑m)).run Tryz.prog W = .ok (.slice (some ⟨W.heap.size, 0, none⟩) m m) (W.alloc (.cells cs.toArray 63)) := by
  have h := infoPr2
  cases hi : Tryz.prog.info? 63 with
  | none => rw [hi] at h; cases h
  | some i =>
    rw [hi] at h
    simp only [Option.map_some, Option.some.injEq, Prod.mk.injEq, decide_eq_true_eq] at h
    obtain ⟨h1, h2, h3⟩ := h
    obtain ⟨z, hz⟩ := Option.isSome_iff_exists.1 h1
    refine ⟨(madeCells z.cells (m * 45)).toList, by simpa using size_madeCells _ _, fun W => ?_⟩
    have hb : (i.bytes : Int) * (m : Int) ≤ 281474976710656 := by
      have h4 : i.bytes * m ≤ 4096 * 16384 := Nat.mul_le_mul h3 hm
      have h5 : (i.bytes : Int) * (m : Int) = ((i.bytes * m : Nat) : Int) := by simp
      rw [h5]; omega
    have := run_makeSlice W 79 63 i z Tryz.underlying79 hi hz .i64 .i64 (m : Int) (m : Int) (by omega) (Int.le_refl _) (by rw [Int.toNat_natCast, h2]; omega) hb (by omega)
    rw [Int.toNat_natCast, h2] at this
    rw [this, Array.toArray_toList]
/-- the first k are copied -/
structure GrS (g m : Nat) (hs : Nat → PrH) (w3 : World) (k : Nat) (wr : World) : Prop where
  fr : Fr [g] w3 wr
  th : wr.there g 0 (m * 45)
  row : ∀ j, j < k → wr.rangeAt g (j * 45) (encPr (hs j))
theorem PtS.drewN {bq : Nat} {x : QuX} {R : Nat → Prop} {st : QuT} {h : PrH} {p : PrT} {w wx : World} {A : Option Addr} {gr cap first : Nat} (H : PtS bq x R st h p w wx A gr cap first) (q : Nat) : PtS bq x R st h p w (wx.drewN q) A gr cap first :=
  ⟨H.q.fr (Fr.drewN [] wx q) (by simp) (by simp) (by simp) (by simp), H.room, H.c8, H.grOk, H.ne, H.fr.trans (Fr.drewN [] wx q) (by simp), H.bx, H.p.fr (Fr.drewN [] wx q) (fun b _ hb => ⟨by simp, hb⟩)⟩

set_option linter.unusedSimpArgs false in
set_option maxRecDepth 100000 in
set_option maxHeartbeats 20000000 in
theorem put_any (bq : Nat) (x : QuX) (R : Nat → Prop) (st : QuT) (h : PrH) (p : PrT) (w : World) (hq : QuAt w bq x R st) (hp : PrAt w R h p) (hlen : st.L.length ≤ 4096) (hcap : x.cap ≤ 8192) :
    Calls Tryz.prog 64 #[.pointer (some ⟨bq, 0, none⟩), prV h] w (PutP bq x R { st with L := st.L ++ [p] } w) := by
  have hle := hq.ring.le
  have hltq : bq < w.heap.size := (Array.getElem?_eq_some_iff.1 hq.box).1
  have hb1 : Below w.heap.size w (w.alloc (.cells (encPr h).toArray 63)) := (Below.refl _ w).alloc (Nat.le_refl _) _
  have hq1 := hq.below hb1
  have hp1 := hp.fr (R' := R) (Fr.of_below (own := []) hb1) (fun b _ hb => ⟨by simp, hb⟩)
  have hg1 : (w.alloc (.cells (encPr h).toArray 63)).heap[w.heap.size]? = some (.cells (encPr h).toArray 63 (0, 0)) := heap_s0 w _
  have hs1 : (w.alloc (.cells (encPr h).toArray 63)).heap.size = w.heap.size + 1 := sz1 w _
  have hbox := hq1.box
  have c0 : (w.alloc (.cells (encPr h).toArray 63)).cell? ⟨bq, 0, none⟩ = some (.slice x.A x.cap x.cap) := by rw [cellH hbox]; rfl
  have c2 : (w.alloc (.cells (encPr h).toArray 63)).cell? ⟨bq, 2, none⟩ = some (.int .i64 st.L.length) := by rw [cellH hbox]; rfl
  have HQ := Lib.hid hq; have HQ1 := Lib.hid hq1; have HP1 := Lib.hid hp1; have HG1 := Lib.hid hg1; have HS1 := Lib.hid hs1; have HB1 := Lib.hid hb1; have HBX := Lib.hid hbox
  have HLQ := Lib.hid hltq
  clear hq hq1 hp hp1 hg1 hs1 hb1 hbox hltq
  go_enter Tryz.func64, Tryz.ntmps64
  go_wp2_with fail
  change Code.wp _ _ _ _ (w.alloc (.cells (encPr h).toArray 63))
  generalize hN : st.L.length = n at *
  have HN := Lib.hid hN; clear hN
  generalize w.alloc (.cells (encPr h).toArray 63) = W1 at *
  go_quiet (fail)
  have HQ2 := Lib.hid (HQ1.out.fr (Fr.drewN [] W1 nq) (by simp) (by simp) (by simp) (by simp))
  have HP2 := Lib.hid (HP1.out.fr (R' := R) (Fr.drewN [] W1 nq) (fun b _ hb => ⟨by simp, hb⟩))
  have HG2 := Lib.hid (show (W1.drewN nq).heap[w.heap.size]? = some (.cells (encPr h).toArray 63 (0, 0)) from HG1.out)
  have HS2 := Lib.hid (show (W1.drewN nq).heap.size = w.heap.size + 1 from HS1.out)
  have HB2 := Lib.hid (drewN_below HB1.out nq)
  have c0' : (W1.drewN nq).cell? ⟨bq, 0, none⟩ = some (.slice x.A x.cap x.cap) := c0
  have c2' : (W1.drewN nq).cell? ⟨bq, 2, none⟩ = some (.int .i64 n) := c2
  clear HQ1 HP1 HG1 HS1 HB1 HBX c0 c2
  go_upto_if 15 with fail
  generalize W1.drewN nq = W2 at *
  go_cut [3] from 4 to 45 (fun v wx => v = .pointer (some ⟨w.heap.size, 0, none⟩) ∧ ∃ A gr cap first, PtS bq x R st h p w wx A gr cap first)
  case first =>
    by_cases hn : n = x.cap
    · have he : ((n : Int) == (x.cap : Int)) = true := by rw [hn]; exact beq_self_eq_true _
      subst hn
      rw [show ((x.cap : Int) == (x.cap : Int)) = true from beq_self_eq_true _]
      clear he
      have HM := Lib.hid (show x.cap < max 4 (2 * x.cap) ∧ max 4 (2 * x.cap) ≤ 8192 by omega)
      have hmx : max (4 : Int) (2 * (x.cap : Int)) = ((max 4 (2 * x.cap) : Nat) : Int) := by omega
      generalize max 4 (2 * x.cap) = m at *
      have hmul : IntKind.i64.wrap (2 * (x.cap : Int)) = 2 * (x.cap : Int) := by rw [IntKind.wrap_i64]; omega
      obtain ⟨zs, hzl, hmk⟩ := make_pr m (by have := HM.out; omega)
      have hmkW := hmk W2
      obtain ⟨hs, hhs⟩ := HQ2.out.ring.heads
      have HH := Lib.hid hhs; have HZ := Lib.hid hzl
      clear hmk hhs hzl
      have c2a : (W2.alloc (.cells zs.toArray 63)).cell? ⟨bq, 2, none⟩ = some (.int .i64 x.cap) := keep1 c2' ((Below.refl _ W2).alloc (Nat.le_refl _) _)
      go_wp2_with fail
      change Code.wp _ _ _ _ (W2.alloc (.cells zs.toArray 63))
      have HW3 := Lib.hid (show GrS W2.heap.size m hs (W2.alloc (.cells zs.toArray 63)) 0 (W2.alloc (.cells zs.toArray 63)) from ⟨Fr.refl _ _, there_heap (heap_s0 W2 _) 0 (m * 45) (by simp [HZ.out]), fun j hj => absurd hj (by omega)⟩)
      have HB3 := Lib.hid (HB2.out.trans (((Below.refl _ W2).alloc (Nat.le_refl _) (.cells zs.toArray 63)).mono (by rw [HS2.out]; omega)))
      have HB23 := Lib.hid ((Below.refl _ W2).alloc (Nat.le_refl _) (.cells zs.toArray 63))
      clear hmkW hmul hmx c2a
      generalize W2.alloc (.cells zs.toArray 63) = W3 at *
      have hlq3 : bq < W2.heap.size := by have := HLQ.out; have := HS2.out; omega
      have HLQ3 := Lib.hid hlq3; clear hlq3
      go_loopw [5, 27] (fun _ i wr => ∃ k : Nat, i = .int .i64 ↑k ∧ k ≤ x.cap ∧ GrS W2.heap.size m hs W3 k wr) (fun _ i _ => x.cap - (intOf i).toNat)
      case atStart => exact ⟨0, rfl, Nat.zero_le _, HW3.out⟩
      case round =>
        obtain ⟨k, rfl, hk, hG⟩ := hrel
        have HG := Lib.hid hG; clear hG
        have HQR := Lib.hid ((HQ2.out.below HB23.out).fr HG.out.fr (by have := HLQ3.out; simp; omega) (fun h0 => by have := (HQ2.out.ngr h0).2.2; simp; omega) (fun h0 => by have := (HQ2.out.nga h0).2.2.1; simp; omega) (fun b hb => by have := HQ2.out.lt b hb; simp; omega))
        have hbr := HQR.out.box
        by_cases hlt : k < x.cap
        · have hf1 : x.first < x.cap := by have h0 := HQ.out.ring.fst; omega
          have hA1 : x.A = some ⟨x.gr, 0, none⟩ := by
            rcases HQ.out.ring.at_ with h | h
            · omega
            · exact h.2
          have hgl := (HQ2.out.ngr (by omega)).2.2
          have hrk := (HH.out k (by rw [HN.out]; exact hlt)).1
          have hrk2 : wr.drew.rangeAt x.gr (((x.first + k) % x.cap) * 45) (encPr (hs k)) := by
            have h1 := range_below hrk HB23.out
            intro i u hu
            show wr.cell? _ = _
            have h2 := h1 i u hu
            rw [HG.out.fr.cell (p := ⟨x.gr, _ + i, none⟩) (World.block_lt_of_cell? _ _ h2) (by simp; omega)]
            exact h2
          have HCA := Lib.hid (at_any bq x.gr x.cap x.first k wr (by rw [cellH hbr, hA1]; rfl) (by rw [cellH hbr]; rfl) hf1 hlt (by omega))
          have hkm : k < m := by have := HM.out; omega
          have hth : wr.drew.there W2.heap.size (k * 45) (encPr (hs k)).toArray.size := by
            intro j hj
            have hj' : j < 45 := by simpa [lenPr] using hj
            have h3 := Nat.mul_le_mul_right 45 (show k + 1 ≤ m by omega)
            have := HG.out.th (k * 45 + j) (by omega)
            rwa [Nat.zero_add] at this
          have HTH := Lib.hid hth
          clear hrk hf1 hA1 hgl hth hbr
          generalize hmE : (x.first + k) % x.cap = q at *
          clear hmE
          go_wp2_with fail
          refine HCA.out.mono ?_
          rintro e w1 ⟨rfl, rfl⟩
          have HGN := Lib.hid (show GrS W2.heap.size m hs W3 (k + 1) (wr.drew.setCells W2.heap.size (k * 45) (encPr (hs k))) from ⟨HG.out.fr.trans ((Fr.of_below (own := [W2.heap.size]) (drew_self wr)).trans (fr_setCells _ _ _ _) (by simp)) (by simp), World.there_setCells (show wr.drew.there _ _ _ from HG.out.th) _ _ _, fun j hj => by
            by_cases hjk : j = k
            · subst hjk
              exact World.rangeAt_setCells_same _ _ _ _ (by have := HTH.out; simpa using this)
            · exact World.rangeAt_setCells_apart (show wr.drew.rangeAt _ _ _ from HG.out.row j (by omega)) _ _ _ (.inr (by rw [lenPr, lenPr]; exact row_apart hjk))⟩)
          go_wp2_with (first
            | (apply wpList_loadMid 63; exact rfl; exact rfl; exact rfl; assumption; exact undPr; exact rfl; exact infPr)
            | (apply wpList_storeMid 63; exact rfl; exact rfl; exact rfl; exact rfl; exact HTH.out; exact infPr; exact onePr _)
            | fail)
          go_roundw
          case rel => exact ⟨k + 1, by go_num, by omega, HGN.out⟩
          case measure => simp [intOf]; omega
        · obtain rfl : k = x.cap := by omega
          have c0r : wr.cell? ⟨bq, 0, none⟩ = some (.slice x.A x.cap x.cap) := by rw [cellH hbr]; rfl
          have c1r : wr.cell? ⟨bq, 1, none⟩ = some (.int .i64 x.first) := by rw [cellH hbr]; rfl
          have f0r : wr.frozen? ⟨bq, 0, none⟩ = false := by simp [World.frozen?, hbr]
          have f1r : wr.frozen? ⟨bq, 1, none⟩ = false := by simp [World.frozen?, hbr]
          clear hbr hlt hk
          go_wp2_with fail
          go_meet
          have hQm := HQR.out.moved (g := W2.heap.size) (m := m) (hs := hs) (fun j hj => ⟨HG.out.row j (by have := HN.out; omega), (((HH.out j hj).2.fr (R' := R) (Fr.of_below (own := []) HB23.out) (fun b _ hb => ⟨by simp, hb⟩)).fr (R' := R) HG.out.fr (fun b _ hb => ⟨by have := HQ2.out.lt b hb; simp; omega, hb⟩))⟩) HG.out.th (by have := HN.out; have := HM.out; omega) ⟨by have := HLQ3.out; omega, fun hb => by have := HQ2.out.lt _ hb; omega, Nat.lt_of_lt_of_le (by have := HB23.out.size; have := HW3.out.th 0 (by have := HM.out; omega); exact World.block_lt_of_cell? W3 _ (Option.isSome_iff_exists.1 this.1).choose_spec) HG.out.fr.size⟩ (fun hn => by have := (HQ2.out.nga hn).2.2.1; omega)
          have hFw : Fr [bq, x.gr] w wr := (Fr.of_below (own := [bq, x.gr]) HB3.out).trans HG.out.fr (fun g hg => .inr (by simp at hg; have := HS2.out; omega))
          refine ⟨rfl, some ⟨W2.heap.size, 0, none⟩, W2.heap.size, m, 0, ⟨hQm, by have := HN.out; have := HM.out; omega, HM.out.2, .inr (by have := HS2.out; omega), by have := HS2.out; omega, (hFw.set (by simp) 0 _).set (by simp) 1 _, ?_, ?_⟩⟩
          · have hne : w.heap.size ≠ bq := by have := HLQ.out; omega
            refine ((heap_set_other _ bq 1 _ hne).trans (heap_set_other _ bq 0 _ hne)).trans ?_
            rw [HG.out.fr.block w.heap.size (by have := HB23.out.size; have := HS2.out; omega) (by have := HS2.out; simp; omega), HB23.out.block _ (by have := HS2.out; omega)]
            exact HG2.out
          · have h1 := (HP2.out.fr (R' := R) (Fr.of_below (own := []) HB23.out) (fun b _ hb => ⟨by simp, hb⟩)).fr (R' := R) HG.out.fr (fun b _ hb => ⟨by have := HQ2.out.lt b hb; simp; omega, hb⟩)
            exact h1.fr (((Fr.refl [bq] wr).set (by simp) 0 _).set (by simp) 1 _) (fun b _ hb => ⟨by simp; exact fun e => HQ2.out.nq (e ▸ hb), hb⟩)
    · have he : ((n : Int) == (x.cap : Int)) = false := beq_eq_false_iff_ne.2 (by omega)
      have HNE := Lib.hid hn; clear hn
      have HLE := Lib.hid hle; clear hle
      go_wp2_with fail
      go_meet
      refine ⟨rfl, x.A, x.gr, x.cap, x.first, ⟨HQ2.out, by rw [HN.out]; have := HNE.out; have := HLE.out; omega, hcap, .inl rfl, ?_, Fr.of_below HB2.out, HG2.out, HP2.out⟩⟩
      have := HNE.out; have := HLE.out
      have := (HQ.out.ngr (by omega)).2.2
      omega
  case rest =>
    clear c0' c2' hle
    obtain ⟨rfl, A2, gr2, cap2, first2, hP⟩ := hcut
    clear hcap
    have hbx := hP.q.box
    rw [HN.out] at hbx
    have hroom := hP.room
    rw [HN.out] at hroom
    have hc8 := hP.c8
    have hf2 : first2 < cap2 := by have h0 := hP.q.ring.fst; change first2 < cap2 ∨ (cap2 = 0 ∧ first2 = 0) at h0; omega
    have hA2 : A2 = some ⟨gr2, 0, none⟩ := by
      have h0 := hP.q.ring.at_
      change (cap2 = 0 ∧ A2 = none) ∨ (0 < cap2 ∧ A2 = some ⟨gr2, 0, none⟩) at h0
      rcases h0 with h | h
      · omega
      · exact h.2
    subst hA2
    have c0 : wc.cell? ⟨bq, 0, none⟩ = some (.slice (some ⟨gr2, 0, none⟩) cap2 cap2) := by rw [cellH hbx]; rfl
    have c1 : wc.cell? ⟨bq, 1, none⟩ = some (.int .i64 first2) := by rw [cellH hbx]; rfl
    have c2 : wc.cell? ⟨bq, 2, none⟩ = some (.int .i64 n) := by rw [cellH hbx]; rfl
    have f2 : wc.frozen? ⟨bq, 2, none⟩ = false := by simp [World.frozen?, hbx]
    have hadd : IntKind.i64.wrap ((n : Int) + 1) = (n : Int) + 1 := by rw [IntKind.wrap_i64]; omega
    have HX := Lib.hid hbx; have HPT := Lib.hid hP; clear hbx hP
    go_wp2_with fail
    change Code.wp _ _ _ _ (wc.setCell ⟨bq, 2, none⟩ (.int .i64 (↑n + 1)))
    have hlq2 : bq < wc.heap.size := Nat.lt_of_lt_of_le HLQ.out HPT.out.fr.size
    have hbxV := heap_setN HX.out (o := 2) (.int .i64 ((n : Int) + 1))
    have hgV : (wc.setCell ⟨bq, 2, none⟩ (.int .i64 ((n : Int) + 1))).heap[w.heap.size]? = some (.cells (encPr h).toArray 63 (0, 0)) := (heap_set_other wc bq 2 _ (by have := HLQ.out; omega)).trans HPT.out.bx
    have hFV : Fr [bq] wc (wc.setCell ⟨bq, 2, none⟩ (.int .i64 ((n : Int) + 1))) := fr_set wc bq 2 _
    generalize wc.setCell ⟨bq, 2, none⟩ (.int .i64 ((n : Int) + 1)) = V at *
    clear c0 c1 c2 f2 hadd
    have c0 : V.cell? ⟨bq, 0, none⟩ = some (.slice (some ⟨gr2, 0, none⟩) cap2 cap2) := by rw [cellH hbxV]; rfl
    have c1 : V.cell? ⟨bq, 1, none⟩ = some (.int .i64 first2) := by rw [cellH hbxV]; rfl
    have c2 : V.cell? ⟨bq, 2, none⟩ = some (.int .i64 (↑n + 1)) := by rw [cellH hbxV]; rfl
    have hsub : IntKind.i64.wrap (n : Int) = (n : Int) := by rw [IntKind.wrap_i64]; omega
    have HRA := Lib.hid (show ∀ q, (V.drewN q).rangeAt w.heap.size 0 (encPr h) from fun q => rangeAt_heapC (pre := []) (mid := encPr h) (post := []) (show (V.drewN q).heap[w.heap.size]? = _ from hgV) (by simp) rfl)
    have HCA := Lib.hid (at_any bq gr2 cap2 first2 n V.drew c0 c1 hf2 (by omega) (by omega))
    have HVB := Lib.hid hbxV; have HVG := Lib.hid hgV; have HFV := Lib.hid hFV
    have HRM := Lib.hid hroom; have HLQ2 := Lib.hid hlq2
    clear hbxV hgV hFV c0 c1 hroom hlq2
    refine wp_region_M (S := fun w' => ∃ q, w' = V.drewN q) 9 (by kernel_rfl) ⟨1, rfl⟩ (fun hHeld => ?_)
    refine wpAnyM_take (i := 0) (v := .pointer (some ⟨bq, 0, none⟩)) rfl (by kernel_rfl) (fun _ _ _ h => h) (Or.inl ⟨by rfl, by intro w hSw; clear hSw; go_simp⟩) (by assumption) ?_
    (try simp only [Act.put, List.setIfInBounds_toArray, List.set_cons_zero, List.set_cons_succ])
    refine wpAnyM_take (i := 1) (v := .pointer (some ⟨bq, 0, none⟩)) rfl (by kernel_rfl) (fun _ _ _ h => h) (Or.inl ⟨by rfl, by intro w hSw; clear hSw; go_simp⟩) (by assumption) ?_
    (try simp only [Act.put, List.setIfInBounds_toArray, List.set_cons_zero, List.set_cons_succ])
    refine wpAnyM_take (i := 2) (v := .pointer (some ⟨bq, 0, none⟩)) rfl (by kernel_rfl) (fun _ _ _ h => h) (Or.inl ⟨by rfl, by intro w hSw; clear hSw; go_simp⟩) (by assumption) ?_
    (try simp only [Act.put, List.setIfInBounds_toArray, List.set_cons_zero, List.set_cons_succ])
    refine wpAnyM_take (i := 3) (v := .pointer (some ⟨bq, 2, none⟩)) rfl (by kernel_rfl) (fun _ _ _ h => h) (Or.inl ⟨by rfl, by intro w hSw; clear hSw; go_simp⟩) (by assumption) ?_
    (try simp only [Act.put, List.setIfInBounds_toArray, List.set_cons_zero, List.set_cons_succ])
    refine wpAnyM_take (i := 4) (v := .int .i64 (↑n + 1)) rfl (by kernel_rfl) (fun _ _ _ h => h) (Or.inl ⟨by rfl, by intro w hSw; obtain ⟨q, rfl⟩ := hSw; go_simp⟩) (by assumption) ?_
    (try simp only [Act.put, List.setIfInBounds_toArray, List.set_cons_zero, List.set_cons_succ])
    refine wpAnyM_take (i := 5) (v := .int .i64 ↑n) rfl (by kernel_rfl) (fun _ _ _ h => h) (Or.inl ⟨by rfl, by intro w hSw; clear hSw; go_simp⟩) (by assumption) ?_
    (try simp only [Act.put, List.setIfInBounds_toArray, List.set_cons_zero, List.set_cons_succ])
    refine wpAnyM_take (i := 7) (v := .agg (encPr h).toArray) rfl (by kernel_rfl) (fun _ _ _ h => h) (yieldsIf_load_mid (by rfl) 63 _ rfl w.heap.size 0 rfl (encPr h) _ (fun _ h => by obtain ⟨q, rfl⟩ := h; exact HRA.out q) undPr rfl infPr) (by assumption) ?_
    (try simp only [Act.put, List.setIfInBounds_toArray, List.set_cons_zero, List.set_cons_succ])
    refine wpAnyM_one (i := 6) rfl (by kernel_rfl) (fun K hK => ?_)
    go_simp
    refine HCA.out.mono ?_
    rintro e w1 ⟨rfl, rfl⟩
    dsimp only
    refine hK.out _ _ ⟨2, rfl⟩ ?_
    clear hK K hHeld
    (try simp only [Act.put, List.setIfInBounds_toArray, List.set_cons_zero, List.set_cons_succ])
    refine wpAnyM_one (i := 8) rfl (by kernel_rfl) (fun K hK => ?_)
    go_simp
    refine hK.out _ _ ⟨2, rfl⟩ ?_
    clear hK K
    (try simp only [Act.put, List.setIfInBounds_toArray, List.set_cons_zero, List.set_cons_succ])
    refine wpAnyM_tail (n := 9) (by kernel_rfl) ?_
    simp only [List.drop_succ_cons, List.drop_zero]
    have hthV : V.there gr2 (((first2 + n) % cap2) * 45) (encPr h).toArray.size := by
      have h1 : wc.there gr2 0 (cap2 * 45) := by
        have h0 := HPT.out.q.ring.th
        change wc.there gr2 0 (cap2 * 45) ∨ cap2 = 0 at h0
        rcases h0 with h | h
        · exact h
        · have := HRM.out; omega
      have hng := HPT.out.q.ngr (show 0 < cap2 by have := HRM.out; omega)
      change gr2 ≠ bq ∧ ¬ R gr2 ∧ gr2 < wc.heap.size at hng
      have h2 := there_fr9 h1 HFV.out (by simpa using hng.1)
      have hm : (first2 + n) % cap2 < cap2 := Nat.mod_lt _ (by have := HRM.out; omega)
      have h3 := Nat.mul_le_mul_right 45 (show (first2 + n) % cap2 + 1 ≤ cap2 by omega)
      intro j hj
      have hj' : j < 45 := by simpa [lenPr] using hj
      have := h2 (((first2 + n) % cap2) * 45 + j) (by omega)
      rwa [Nat.zero_add] at this
    have HTV := Lib.hid (show (V.drewN 2).there gr2 (((first2 + n) % cap2) * 45) (encPr h).toArray.size from hthV)
    clear hthV
    go_wp2_with (first
      | (refine wpList_storeMid 63 rfl rfl rfl rfl HTV.out infPr (onePr h) ?_)
      | fail)
    refine bodyPost_ret (results_none rfl _ _ _) rfl ?_
    have hFD : Fr [bq] wc (V.drewN 2) := HFV.out.trans (Fr.drewN [] V 2) (by simp)
    have hQ := HPT.out.q.pushed hFD (by rw [HN.out]; exact HVB.out) (by rw [HN.out]; exact HRM.out) HPT.out.p
    rw [HN.out] at hQ
    refine ⟨rfl, ⟨_, hQ, rfl, rfl, HPT.out.grOk, HPT.out.c8⟩, ?_⟩
    refine (HPT.out.fr.trans hFD (by simp)).trans (fr_setCells _ _ _ _) (fun g hg => ?_)
    simp only [List.mem_singleton] at hg
    subst hg
    rcases HPT.out.grOk with h | h
    · left; simp [h]
    · right; exact h
end Go.Proofs.YtbpmmmnphpkdjaaGreatDoor
namespace Go.Proofs.YtbpmmmnphpkdjaaGreatDoor
open Go.RowKit Go.MapKept Go.Maps
noncomputable def pushE (st : QuT) (p : PrT) : Int := if rightE p.d ≠ 0 then rightE p.d else if p.r.xi ≠ p.d.xi ∨ p.r.zx ≠ p.d.zx then 1 else if p.d.zx ≤ st.last then 150 else if st.bound ≤ st.L.length then 3 else 0
noncomputable def pushS (st : QuT) (p : PrT) : QuT := if pushE st p = 0 then { st with L := st.L ++ [p], last := p.d.zx } else st
/-- what a call of Push leaves -/
def PushP (bq : Nat) (x : QuX) (R : Nat → Prop) (st : QuT) (p : PrT) (w : World) (e : Ending) (w' : World) : Prop := e = .returned (.int .i64 (pushE st p)) ∧ QuPo bq x R (pushS st p) w w'
theorem QuAt.rebox {w w' : World} {bq : Nat} {x : QuX} {R : Nat → Prop} {st st' : QuT} (H : QuAt w bq x R st) (hF : Fr [bq] w w') (hL : st'.L = st.L) (hv : st'.vs = st.vs) (ha : st'.acked = st.acked)
    (hb : w'.heap[bq]? = some (.cells #[.slice x.A x.cap x.cap, .int .i64 x.first, .int .i64 st'.L.length, .int .i64 st'.bound, slV x.vh, .slice x.aA st'.acked.length x.ac, .int .i64 st'.last, .int .i64 st'.committed] 135 (0, 0))) : QuAt w' bq x R st' := by
  have hRb : ∀ b, R b → b ∉ [bq] := fun b hb => by simp; exact fun e => H.nq (e ▸ hb)
  refine ⟨hb, ?_, ?_, ?_, by rw [ha]; exact H.acl, fun b hb => Nat.lt_of_lt_of_le (H.lt b hb) hF.size, H.nq, fun hc => ⟨(H.ngr hc).1, (H.ngr hc).2.1, Nat.lt_of_lt_of_le (H.ngr hc).2.2 hF.size⟩, fun hn => ⟨(H.nga hn).1, (H.nga hn).2.1, Nat.lt_of_lt_of_le (H.nga hn).2.2.1 hF.size, (H.nga hn).2.2.2⟩⟩
  · rw [hL]; exact H.ring.fr hF (fun hc => by simpa using (H.ngr hc).1) hRb
  · rw [hv]; exact H.vs.fr hF (fun b _ hb => ⟨hRb b hb, hb⟩) (fun _ => by simp [encVt])
  · rw [ha]
    refine H.ack.imp id fun k => ?_
    have hn : x.aA ≠ none := by rw [k.1]; simp
    have hno : x.ga ∉ [bq] := by simp [(H.nga hn).1]
    exact ⟨k.1, there_fr9 k.2.1 hF hno, fun j hj => (hF.cell (p := ⟨x.ga, j, none⟩) (H.nga hn).2.2.1 hno).trans (k.2.2 j hj)⟩
theorem QuAt.more {w : World} {bq : Nat} {x : QuX} {R R' : Nat → Prop} {st : QuT} (H : QuAt w bq x R st) (hR : ∀ b, R b → R' b) (hlt : ∀ b, R' b → b < w.heap.size) (hq : ¬ R' bq) (hgr : 0 < x.cap → ¬ R' x.gr) (hga : x.aA ≠ none → ¬ R' x.ga) : QuAt w bq x R' st :=
  ⟨H.box, H.ring.more hR, H.vs.fr (Fr.refl [] w) (fun b _ hb => ⟨by simp, hR b hb⟩) (fun _ => by simp [encVt]), H.ack, H.acl, hlt, hq, fun hc => ⟨(H.ngr hc).1, hgr hc, (H.ngr hc).2.2⟩, fun hn => ⟨(H.nga hn).1, hga hn, (H.nga hn).2.2⟩⟩
theorem QuPo.same {bq : Nat} {x : QuX} {R : Nat → Prop} {st : QuT} {w w' : World} (H : QuAt w bq x R st) (hb : Below w.heap.size w w') (hc : x.cap ≤ 8192) : QuPo bq x R st w w' :=
  ⟨⟨x, R, ⟨H.below hb, ⟨rfl, rfl⟩, .inl rfl, fun _ h => .inl h, fun _ h => h⟩, hc⟩, Fr.of_below hb⟩
theorem push_no {bq : Nat} {x : QuX} {R : Nat → Prop} {st : QuT} {p : PrT} {w w' : World} {c : Int} (H : QuAt w bq x R st) (hb : Below w.heap.size w w') (hc : x.cap ≤ 8192) (h : pushE st p = c) (h0 : c ≠ 0) : PushP bq x R st p w (.returned (.int .i64 c)) w' :=
  ⟨by rw [h], by unfold pushS; rw [if_neg (by rw [h]; exact h0)]; exact QuPo.same H hb hc⟩
set_option linter.unusedSimpArgs false in
set_option maxRecDepth 100000 in
set_option maxHeartbeats 20000000 in
theorem push_any (bq : Nat) (x : QuX) (R Rp : Nat → Prop) (st : QuT) (h : PrH) (p : PrT) (w : World) (hq : QuAt w bq x R st) (hp : PrAt w Rp h p) (hE : Env w) (hsm : PrSm 1048576 p) (hlen : st.L.length ≤ 4096) (hcap : x.cap ≤ 8192) (hgr : x.gr < w.heap.size) :
    Calls Tryz.prog 19 #[.pointer (some ⟨bq, 0, none⟩), prV h] w (PushP bq x R st p w) := by
  have hltq : bq < w.heap.size := (Array.getElem?_eq_some_iff.1 hq.box).1
  have hb1 : Below w.heap.size w (w.alloc (.cells (encPr h).toArray 63)) := (Below.refl _ w).alloc (Nat.le_refl _) _
  have hg1 : (w.alloc (.cells (encPr h).toArray 63)).heap[w.heap.size]? = some (.cells (encPr h).toArray 63 (0, 0)) := heap_s0 w _
  have hp1 := hp.fr (R' := Rp) (Fr.of_below (own := []) hb1) (fun b _ hb => ⟨by simp, hb⟩)
  have hrd : (w.alloc (.cells (encPr h).toArray 63)).rangeAt w.heap.size 0 (encDl h.d) := rangeAt_heapC (pre := []) (mid := encDl h.d) (post := encRp h.r) hg1 (by simp [encPr]) rfl
  have HCR := Lib.hid (right13_any h.d p.d _ Rp hp1.1 (hE.below (Nat.le_refl _) hb1) hsm.1)
  have HS1 := Lib.hid (sz1 w (.cells (encPr h).toArray 63))
  have HQ := Lib.hid hq; have HP1 := Lib.hid hp1; have HG1 := Lib.hid hg1; have HB1 := Lib.hid hb1; have HE := Lib.hid hE; have HSM := Lib.hid hsm; have HLQ := Lib.hid hltq
  have HPE := Lib.hid hp
  clear hq hp hb1 hg1 hp1 hE hsm hltq
  go_enter Tryz.func19, Tryz.ntmps19
  go_wp2_with (first
    | (apply wpList_loadMid 54; exact rfl; exact rfl; exact rfl; assumption; exact undDl; exact rfl; exact infDl)
    | fail)
  refine HCR.out.mono ?_
  rintro e w2 ⟨rfl, hb2⟩
  generalize w.alloc (.cells (encPr h).toArray 63) = W1 at *
  have HB2 := Lib.hid (HB1.out.trans (hb2.mono HB1.out.size))
  have HG2 := Lib.hid ((hb2.block w.heap.size (by have := HS1.out; omega)).trans HG1.out)
  have HP2 := Lib.hid (HP1.out.fr (R' := Rp) (Fr.of_below (own := []) hb2) (fun b _ hb => ⟨by simp, hb⟩))
  have HQ2 := Lib.hid (HQ.out.below HB2.out)
  have HS2 := Lib.hid (show w.heap.size + 1 ≤ w2.heap.size by have := HS1.out; have := hb2.size; omega)
  clear hrd HCR HS1 HG1 HP1 HB1 hb2
  obtain ⟨⟨e0, e1, e2, e3⟩, -⟩ := HP2.out.1
  obtain ⟨⟨e4, e5, e6⟩, -⟩ := HP2.out.2
  clear e0 e3 e6
  have hc1 : w2.cell? ⟨w.heap.size, 1, none⟩ = some (.int .i32 p.d.xi) := by rw [cellH HG2.out, e1]; rfl
  have hc2 : w2.cell? ⟨w.heap.size, 2, none⟩ = some (.int .i64 p.d.zx) := by rw [cellH HG2.out, e2]; rfl
  have hc20 : w2.cell? ⟨w.heap.size, 20, none⟩ = some (.int .i32 p.r.xi) := by rw [cellH HG2.out, e4]; rfl
  have hc21 : w2.cell? ⟨w.heap.size, 21, none⟩ = some (.int .i64 p.r.zx) := by rw [cellH HG2.out, e5]; rfl
  have hl6 : w2.cell? ⟨bq, 6, none⟩ = some (.int .i64 st.last) := by rw [cellH HQ2.out.box]; rfl
  clear e1 e2 e4 e5
  have HPU := Lib.hid (show pushE st p = _ from rfl)
  unfold pushE at HPU
  generalize hEr : rightE p.d = er at *
  by_cases hr : er = 0
  · subst hr
    have HER := Lib.hid hEr; clear hEr
    have hn0 : ((0 : Int) != 0) = false := rfl
    by_cases hx : p.r.xi = p.d.xi
    · have bx : (p.r.xi != p.d.xi) = false := by simp [hx]
      have HX := Lib.hid hx; clear hx
      by_cases hz : p.r.zx = p.d.zx
      · have bz : (p.r.zx != p.d.zx) = false := by simp [hz]
        have HZ := Lib.hid hz; clear hz
        have HXZ := Lib.hid (show ¬ (p.r.xi ≠ p.d.xi ∨ p.r.zx ≠ p.d.zx) by rw [HX.out, HZ.out]; simp)
        have HP3 := Lib.hid (show pushE st p = if p.d.zx ≤ st.last then 150 else if st.bound ≤ st.L.length then 3 else 0 from by
          unfold pushE; rw [if_neg (by rw [HER.out]; simp), if_neg HXZ.out])
        clear HPU
        by_cases hla : p.d.zx ≤ st.last
        · have bl : decide (p.d.zx ≤ st.last) = true := decide_eq_true hla
          have HN := Lib.hid (show pushE st p = 150 by rw [HP3.out, if_pos hla])
          clear hla
          go_wp2_with fail
          go_quiet (fail)
          go_wp2_with fail
          go_ret
          exact push_no HQ.out (drewN_below HB2.out _) hcap HN.out (by decide)
        · have bl : decide (p.d.zx ≤ st.last) = false := decide_eq_false hla
          have HP4 := Lib.hid (show pushE st p = if st.bound ≤ st.L.length then 3 else 0 by rw [HP3.out, if_neg hla])
          clear hla
          by_cases hfu : st.bound ≤ st.L.length
          · have HN := Lib.hid (show pushE st p = 3 by rw [HP4.out, if_pos hfu])
            have HCF := Lib.hid (fun q => queFull_any bq x R st (w2.drewN q) (HQ.out.below (drewN_below HB2.out q)))
            rw [decide_eq_true hfu] at HCF
            clear hfu
            go_wp2_with fail
            go_quiet (fail)
            go_wp2_with fail
            refine (HCF.out _).mono ?_
            rintro e w3 ⟨rfl, q3, rfl⟩
            go_wp2_with fail
            go_ret
            exact push_no HQ.out (drewN_below HB2.out _) hcap HN.out (by decide)
          · have HN := Lib.hid (show pushE st p = 0 by rw [HP4.out, if_neg hfu])
            have HCF := Lib.hid (fun q => queFull_any bq x R st (w2.drewN q) (HQ.out.below (drewN_below HB2.out q)))
            rw [decide_eq_false hfu] at HCF
            clear hfu
            go_wp2_with fail
            go_quiet (fail)
            go_wp2_with fail
            refine (HCF.out _).mono ?_
            rintro e w3 ⟨rfl, q3, rfl⟩
            go_wp2_with fail
            have HB3 := Lib.hid (drewN_below HB2.out (nq + q3))
            have HG3 := Lib.hid (show (w2.drewN (nq + q3)).heap[w.heap.size]? = some (.cells (encPr h).toArray 63 (0, 0)) from HG2.out)
            have HP5 := Lib.hid (HP2.out.fr (R' := Rp) (Fr.drewN [] w2 (nq + q3)) (fun b _ hb => ⟨by simp, hb⟩))
            have HS3 := Lib.hid (show w.heap.size + 1 ≤ (w2.drewN (nq + q3)).heap.size from HS2.out)
            have HZ2 := Lib.hid (show (w2.drewN (nq + q3)).cell? ⟨w.heap.size, 2, none⟩ = some (.int .i64 p.d.zx) from hc2)
            clear hc1 hc2 hc20 hc21 hl6 HCF HG2 HP2 HQ2 HS2
            generalize w2.drewN (nq + q3) = W3 at *
            have HSO := Lib.hid (fun (W : World) (hW : Below W3.heap.size W3 W) => (rangeAt_heapC (pre := []) (mid := encPr h) (post := []) ((hW.block _ (by have := HS3.out; omega)).trans HG3.out) (by simp) rfl : W.rangeAt w.heap.size 0 (encPr h)))
            have HCO := Lib.hid (fun (W : World) (hW : Below W3.heap.size W3 W) => prOwn_any h p W Rp (HP5.out.fr (Fr.of_below (own := []) hW) (fun b _ hb => ⟨by simp, hb⟩)) HSM.out)
            refine wp_region_M (S := fun w' => w'.rangeAt w.heap.size 0 (encPr h)) 6 (by kernel_rfl) (HSO.out _ (drew_self W3)) (fun hHeld => ?_)
            have HD := Lib.hid (drew_self W3)
            generalize W3.drew = V0 at *
            refine wpAnyM_take (i := 0) (v := .pointer (some ⟨bq, 0, none⟩)) rfl (by kernel_rfl) (fun _ _ _ h => h) (Or.inl ⟨by rfl, by intro w hSw; clear hSw; go_simp⟩) (by assumption) ?_
            (try simp only [Act.put, List.setIfInBounds_toArray, List.set_cons_zero, List.set_cons_succ])
            refine wpAnyM_take (i := 1) (v := .pointer (some ⟨bq, 0, none⟩)) rfl (by kernel_rfl) (fun _ _ _ h => h) (Or.inl ⟨by rfl, by intro w hSw; clear hSw; go_simp⟩) (by assumption) ?_
            (try simp only [Act.put, List.setIfInBounds_toArray, List.set_cons_zero, List.set_cons_succ])
            refine wpAnyM_take (i := 2) (v := .pointer (some ⟨bq, 0, none⟩)) rfl (by kernel_rfl) (fun _ _ _ h => h) (Or.inl ⟨by rfl, by intro w hSw; clear hSw; go_simp⟩) (by assumption) ?_
            (try simp only [Act.put, List.setIfInBounds_toArray, List.set_cons_zero, List.set_cons_succ])
            refine wpAnyM_take (i := 3) (v := .agg (encPr h).toArray) rfl (by kernel_rfl) (fun _ _ _ h => h) (yieldsIf_load_mid (by rfl) 63 _ rfl w.heap.size 0 rfl (encPr h) _ (fun _ h => h) undPr rfl infPr) (by assumption) ?_
            (try simp only [Act.put, List.setIfInBounds_toArray, List.set_cons_zero, List.set_cons_succ])
            refine wpAnyM_one (i := 4) rfl (by kernel_rfl) (fun K hK => ?_)
            go_simp
            refine (HCO.out _ HD.out).mono ?_
            rintro e w4 ⟨⟨h', rfl, hat⟩, hb4⟩
            dsimp only
            have HAT := Lib.hid hat
            have HB4 := Lib.hid (HD.out.trans (hb4.mono HD.out.size))
            refine hK.out _ _ (HSO.out _ HB4.out) ?_
            clear hK K hat hb4 hHeld
            (try simp only [Act.put, List.setIfInBounds_toArray, List.set_cons_zero, List.set_cons_succ])
            have HBW := Lib.hid (HB3.out.trans (HB4.out.mono HB3.out.size))
            have HQ4 := Lib.hid ((HQ.out.below HBW.out).more (R' := fun b => R b ∨ (w.heap.size ≤ b ∧ b < w4.heap.size)) (fun b hb => .inl hb) (fun b hb => hb.elim (fun hb => Nat.lt_of_lt_of_le (HQ.out.lt b hb) HBW.out.size) (fun hb => hb.2)) (fun hb => hb.elim HQ.out.nq (fun hb => by have := HLQ.out; omega)) (fun hc hb => hb.elim (HQ.out.ngr hc).2.1 (fun hb => by omega)) (fun hn hb => hb.elim (HQ.out.nga hn).2.1 (fun hb => by have := (HQ.out.nga hn).2.2.1; omega)))
            have HP6 := Lib.hid (HAT.out.fr (R' := fun b => R b ∨ (w.heap.size ≤ b ∧ b < w4.heap.size)) (Fr.refl [] w4) (fun b hl hb => ⟨by simp, .inr ⟨by have h1 := HB3.out.size; have h2 := HD.out.size; have h3 : V0.heap.size ≤ b := hb; omega, hl⟩⟩))
            have HCP := Lib.hid (put_any bq x _ st h' p w4 HQ4.out HP6.out hlen hcap)
            refine wpAnyM_one (i := 5) rfl (by kernel_rfl) (fun K hK => ?_)
            go_simp
            refine HCP.out.mono ?_
            rintro e w5 ⟨rfl, ⟨x', hq5, hx1, hx2, hx3, hx4⟩, hf5⟩
            dsimp only
            have hnb : w.heap.size ∉ [bq, x.gr] := by have := HLQ.out; simp; omega
            have hl4 : w.heap.size < w4.heap.size := by have := HS3.out; have := HB4.out.size; omega
            refine hK.out _ _ (fun i u hu => (hf5.cell (p := ⟨w.heap.size, 0 + i, none⟩) hl4 hnb).trans (HSO.out _ HB4.out i u hu)) ?_
            clear hK K
            (try simp only [Act.put, List.setIfInBounds_toArray, List.set_cons_zero, List.set_cons_succ])
            refine wpAnyM_tail (n := 6) (by kernel_rfl) ?_
            simp only [List.drop_succ_cons, List.drop_zero, List.drop_nil]
            have HQ5 := Lib.hid hq5; have HX1 := Lib.hid hx1; have HX2 := Lib.hid hx2; have HX3 := Lib.hid hx3; have HX4 := Lib.hid hx4; have HF5 := Lib.hid hf5
            have hz5 : w5.cell? ⟨w.heap.size, 2, none⟩ = some (.int .i64 p.d.zx) := by
              rw [hf5.cell (p := ⟨w.heap.size, 2, none⟩) hl4 hnb]
              exact keep1 HZ2.out HB4.out
            have l5 : w5.cell? ⟨bq, 6, none⟩ = some (.int .i64 st.last) := by rw [cellH hq5.box]; rfl
            have f5 : w5.frozen? ⟨bq, 6, none⟩ = false := by simp [World.frozen?, hq5.box]
            clear hq5 hx1 hx2 hx3 hx4 hf5 HCP hnb hl4
            go_wp2_with fail
            go_ret
            refine ⟨by rw [HN.out]; rfl, ?_⟩
            unfold pushS
            rw [if_pos HN.out]
            refine ⟨⟨x', _, ⟨HQ5.out.rebox (st' := { st with L := st.L ++ [p], last := p.d.zx }) (fr_set w5 bq 6 _) rfl rfl rfl ((heap_setN HQ5.out.box _).trans (by simp)), ⟨HX1.out, HX2.out⟩, HX3.out.imp id (fun h => Nat.le_trans HBW.out.size h), fun b hb => hb.imp id (fun h => h.1), fun b hb => .inl hb⟩, HX4.out⟩, ?_⟩
            exact (((Fr.of_below (own := [bq, x.gr, x.ga]) HBW.out).trans HF5.out (fun g hg => .inl (by simp at hg; rcases hg with h | h <;> simp [h])))).set (by simp) 6 _
      · have bz : (p.r.zx != p.d.zx) = true := by simp [hz]
        have HN := Lib.hid (show pushE st p = 1 by unfold pushE; rw [if_neg (by rw [HER.out]; simp), if_pos (.inr hz)])
        clear hz
        go_wp2_with fail
        go_ret
        exact push_no HQ.out HB2.out hcap HN.out (by decide)
    · have bx : (p.r.xi != p.d.xi) = true := by simp [hx]
      have HN := Lib.hid (show pushE st p = 1 by unfold pushE; rw [if_neg (by rw [HER.out]; simp), if_pos (.inl hx)])
      clear hx
      go_wp2_with fail
      go_ret
      exact push_no HQ.out HB2.out hcap HN.out (by decide)
  · have bn : (er != 0) = true := by simp [hr]
    have HN := Lib.hid (show pushE st p = er by unfold pushE; rw [hEr, if_pos hr])
    have HR := Lib.hid hr
    clear hEr hr
    go_wp2_with fail
    go_ret
    exact push_no HQ.out HB2.out hcap HN.out HR.out
end Go.Proofs.YtbpmmmnphpkdjaaGreatDoor

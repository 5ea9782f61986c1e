/- The walk of arborlaw08.SessionClocks. Conditions: the script has at most 1048576 beats; its numbers are int64, int32. -/
import Derived.Test.YtfnigjeklcagnaaGreatDoorClocksP
import Derived.Test.YtfnigjeklcagnaaGreatDoorAliveP
import Derived.Test.YtfnigjeklcagnaaGreatDoorApartP
import Derived.Deep.RegionWith
import Derived.Deep.RegionHeld3
namespace Go.Proofs.YtfnigjeklcagnaaGreatDoor
open Go.RowKit Go.MapKept Go.Maps
set_option maxRecDepth 100000 in
set_option maxHeartbeats 4000000 in
theorem sessionClocks_any (tick : Int) (A : Option Addr) (n c : Nat) (l : List BeatV) (w : World) (hx : SlB w A n l) (hn : n ≤ 1048576) (wfl : ∀ j, j < n → wfB l[j]!) :
    Calls Tryz.prog 4 #[.int .i64 tick, .slice A n c] w fun e w' => e = .returned (.bool true) ∧ Below w.heap.size w w' := by
  have HX := Lib.hid hx; have HW := Lib.hid wfl
  clear hx wfl
  go_enter Tryz.func4, Tryz.ntmps4
  go_wp2_with fail
  go_at_call 9
  refine (newClock_any _ _).mono ?_
  rintro e w2 ⟨hC, hb2⟩
  by_cases ht : 1 ≤ tick ∧ tick ≤ 1099511627776
  case neg =>
    rw [if_neg ht] at hC
    subst hC
    have HB2 := Lib.hid hb2
    clear hb2
    go_wp2_with fail
    go_at_call 15
    refine (refNew_any _ _).mono ?_
    rintro e w3 ⟨hC, hb3⟩
    rw [if_neg ht] at hC
    subst hC
    have HB3 := Lib.hid (HB2.out.trans (hb3.mono HB2.out.size))
    clear hb3 ht
    go_wp2_with fail
    go_at_call 16
    refine (no8_any _ _).mono ?_
    rintro e w' ⟨rfl, rfl⟩
    go_wp2_with fail
    refine (live8_any _).mono ?_
    rintro e w1 ⟨rfl, hb1⟩
    have HB4 := Lib.hid (HB3.out.trans (hb1.mono HB3.out.size))
    clear hb1
    go_wp2_with fail
    go_ret
    exact ⟨rfl, HB4.out⟩
  case pos =>
  rw [if_pos ht] at hC
  obtain ⟨bc, own, rfl, hC, hown⟩ := hC
  have HB2 := Lib.hid hb2
  have HC := Lib.hid hC
  have HO := Lib.hid (show ∀ g ∈ own, w.heap.size ≤ g from hown)
  clear hb2 hC hown
  go_wp2_with fail
  go_at_call 15
  refine (refNew_any _ _).mono ?_
  rintro e w3 ⟨hC, hb3⟩
  rw [if_pos ht] at hC
  obtain ⟨rb, ro, rfl, hC, hown⟩ := hC
  have HB3 := Lib.hid (HB2.out.trans (hb3.mono HB2.out.size))
  have HA := Lib.hid (show ∀ g ∈ own, g ∉ ro from fun g hg hm => by have := HC.out.lt g hg; have := hown g hm; omega)
  have HCC := Lib.hid (HC.out.below hb3)
  have HD := Lib.hid hC
  have HOD := Lib.hid (show ∀ g ∈ ro, w.heap.size ≤ g from fun g hg => Nat.le_trans HB2.out.size (hown g hg))
  obtain ⟨ht1, ht2⟩ := ht
  clear hb3 hC hown HB2 HC
  go_wp2_with fail
  go_at_call 16
  refine (no8_any _ _).mono ?_
  rintro e w' ⟨rfl, rfl⟩
  go_wp2_with fail
  refine (live8_any _).mono ?_
  rintro e w4 ⟨rfl, hb4⟩
  have HCC := Lib.hid (HCC.out.below hb4)
  have HD := Lib.hid (HD.out.below hb4)
  have HB4 := Lib.hid (HB3.out.trans (hb4.mono HB3.out.size))
  clear hb4
  go_wp2_with fail
  go_loopw [9] (fun i wr => ClR tick bc rb n w i wr) (fun i _ => n - (RowKit.intOf i).toNat)
  case atStart => exact ⟨0, [], [], own, ro, rfl, Nat.zero_le _, HCC.out, HD.out, Ref.nil, HA.out, HO.out, HOD.out, HB4.out, Nat.le_refl _⟩
  case round =>
    obtain ⟨k, K, L, own1, ro1, rfl, hk, h1, h2, h3, h4, h5, h6, h7, h8⟩ := hrel
    by_cases hkn : k < n
    · have hkn2 : ((k : Nat) : Int) < (n : Int) := by omega
      obtain ⟨b, off, hA, y0, y1, y2, y3⟩ := (HX.out.below h7).2 k hkn
      subst hA
      obtain ⟨w0, wi, wt, wn⟩ := HW.out k hkn
      generalize l[k]! = z at *
      obtain ⟨zk, zi, zt, zn⟩ := z
      dsimp only at y0 y1 y2 y3 w0 wi wt wn
      have HT := Lib.hid (Two.start (z := (zk, zi, zt, zn)) h1 h2 h4 h5 h6 h7)
      have HG := Lib.hid h3
      have HL := Lib.hid h8
      have HLL := Lib.hid (show K.length ≤ 1048576 ∧ L.length ≤ 1048576 from ⟨by omega, by rw [h3.len]; omega⟩)
      have HWI := Lib.hid wi; have HWT := Lib.hid wt; have HWN := Lib.hid wn
      have HONE := Lib.hid (And.intro h1.one (oneK_perm h3.1 h1.one))
      clear h1 h2 h3 h4 h5 h6 h7 h8 w0 wi wt wn HCC HD HA HO HOD HB3 HB4
      by_cases hk1 : zk = 1
      · subst hk1
        have HL2 := Lib.hid (show (touchK K tick zi zt zn).length ≤ k + 1 from Nat.le_trans (touch_len ..) (by have := HL.out; omega))
        obtain ⟨te, HTE⟩ : ∃ te, Hid (touchE zi zt zn = te) := ⟨_, Lib.hid rfl⟩
        go_wp2_with fail
        have S0 := HT.out.drew.keep3
        go_region_held3 (fun w' => (w'.cell? ⟨wr.heap.size, 1, none⟩ = some (.int .i64 zi) ∧ w'.cell? ⟨wr.heap.size, 2, none⟩ = some (.int .i32 zt) ∧ w'.cell? ⟨wr.heap.size, 3, none⟩ = some (.int .i64 zn)))
          ((first | assumption | exact S0))
          (first
          | (go_at_call 10; refine (touch_all tick K bc own1 zi zt zn _ HT.out.drew.c HWI.out HWT.out.2 ht1 ht2).mono ?_; rintro e w5 ⟨rfl, ⟨own5, hC5, hs5⟩, hf5⟩; have HT5 := Lib.hid (HT.out.drew.first hC5 hs5 hf5); have S5 := HT5.out.keep3; rw [HTE.out]; clear hC5 hs5 hf5)
          | (go_at_call 16; refine (no8_any _ _).mono ?_; rintro e w' ⟨rfl, rfl⟩)
          | (go_at_call 17; refine (refTouch_all tick K L rb ro1 zi zt zn _ HT5.out.r HG.out HONE.out.1 HLL.out.2 HWI.out HWT.out.2 ht1 ht2).mono ?_; rintro e w6 ⟨L6, ⟨rfl, ⟨ro6, hC6, hs6⟩, hf6⟩, hr6⟩; have HZ := Lib.hid (HT5.out.second hC6 hs6 hf6); have S6 := HZ.out.keep3; have HR2 := Lib.hid hr6; rw [HTE.out]; clear hC6 hs6 hf6 hr6))
        all_goals (
          generalize touchK K tick zi zt zn = K8 at *
          obtain ⟨A7, c7, _, m1, _⟩ := HZ.out.drew.r.cells
          have hll := HR2.out.len
          have HR := Lib.hid (fun i (hi : i = Value.int .i64 ↑(k + 1)) => ClR.of (i := i) HZ.out.drew hi (show k + 1 ≤ n by omega) HR2.out HL2.out)
          have cLen := clkLen_any tick _ bc _ _ HZ.out.drew.c
          rw [hll] at m1
          clear hll
          generalize K8.length = kl at *
          go_wp2_with fail
          go_region_with (first | (go_at_call 24; refine cLen.mono ?_; rintro e w' ⟨rfl, rfl⟩))
          all_goals (
            go_wp2_with fail
            go_roundw
            case rel => exact HR.out _ (by go_num)
            case measure => simp [RowKit.intOf]; omega))
      by_cases hk2 : zk = 2
      · subst hk2
        have HL2 := Lib.hid (show (dropK K zi).length ≤ k + 1 from Nat.le_trans (drop_len ..) (by have := HL.out; omega))
        have HR2 := Lib.hid (HG.out.drop zi)
        obtain ⟨dd, HDD⟩ : ∃ dd, Hid ((getK K zi).isSome = dd) := ⟨_, Lib.hid rfl⟩
        have HDL := Lib.hid (show (getK L zi).isSome = dd by rw [getK_perm HG.out.1 HT.out.c.one]; exact HDD.out)
        go_wp2_with fail
        have S0 := HT.out.drew.keep3
        go_region_held3 (fun w' => (w'.cell? ⟨wr.heap.size, 1, none⟩ = some (.int .i64 zi) ∧ w'.cell? ⟨wr.heap.size, 2, none⟩ = some (.int .i32 zt) ∧ w'.cell? ⟨wr.heap.size, 3, none⟩ = some (.int .i64 zn)))
          ((first | assumption | exact S0))
          (first
          | (go_at_call 11; refine (drop_any tick K bc own1 zi HWI.out _ HT.out.drew.c).mono ?_; rintro e w5 ⟨rfl, ⟨own5, hC5, hs5⟩, hf5⟩; have HT5 := Lib.hid (HT.out.drew.first hC5 hs5 hf5); have S5 := HT5.out.keep3; rw [HDD.out]; clear hC5 hs5 hf5)
          | (go_at_call 18; refine (refDrop_any tick L rb ro1 zi _ HT5.out.r HONE.out.2 (Nat.le_trans HLL.out.2 (by decide))).mono ?_; rintro e w6 ⟨rfl, ⟨ro6, hC6, hs6⟩, hf6⟩; have HZ := Lib.hid (HT5.out.second hC6 hs6 hf6); have S6 := HZ.out.keep3; rw [HDL.out]; clear hC6 hs6 hf6))
        all_goals (
          generalize dropK K zi = K8 at *
          cases dd
          all_goals (
            obtain ⟨A7, c7, _, m1, _⟩ := HZ.out.drew.r.cells
            have hll := HR2.out.len
            have HR := Lib.hid (fun i (hi : i = Value.int .i64 ↑(k + 1)) => ClR.of (i := i) HZ.out.drew hi (show k + 1 ≤ n by omega) HR2.out HL2.out)
            have cLen := clkLen_any tick _ bc _ _ HZ.out.drew.c
            rw [hll] at m1
            clear hll
            generalize K8.length = kl at *
            go_wp2_with fail
            go_region_with (first | (go_at_call 24; refine cLen.mono ?_; rintro e w' ⟨rfl, rfl⟩))
            all_goals (
              go_wp2_with fail
              go_roundw
              case rel => exact HR.out _ (by go_num)
              case measure => simp [RowKit.intOf]; omega)))
      by_cases hk3 : zk = 3
      · subst hk3
        have HL2 := Lib.hid (show (lateK K zn).length ≤ k + 1 from Nat.le_trans (late_len ..) (by have := HL.out; omega))
        go_wp2_with fail
        have S0 := HT.out.drew.keep3
        go_region_held3 (fun w' => (w'.cell? ⟨wr.heap.size, 1, none⟩ = some (.int .i64 zi) ∧ w'.cell? ⟨wr.heap.size, 2, none⟩ = some (.int .i32 zt) ∧ w'.cell? ⟨wr.heap.size, 3, none⟩ = some (.int .i64 zn)))
          ((first | assumption | exact S0))
          (first
          | (go_at_call 13; refine (expired_ord tick K bc own1 zn _ HT.out.drew.c (Nat.le_trans HLL.out.1 (by decide))).mono ?_; rintro e w5 ⟨⟨E, v5, rfl, hr, hE, hN, hO⟩, ⟨own5, hC5, hs5⟩, hf5⟩; obtain ⟨A5, c5, rfl⟩ := own_formI hr; have HT5 := Lib.hid (HT.out.drew.first hC5 hs5 hf5); have S5 := HT5.out.keep3; have HW5 := Lib.hid hr; have HE5 := Lib.hid hE; have HO5 := Lib.hid hO; have HN5 := Lib.hid (Nat.le_trans (Nat.le_trans (exp_len hE hN) HLL.out.1) (by decide : 1048576 ≤ 281474976710656)); clear hr hE hN hO hC5 hs5 hf5)
          | (go_at_call 20; refine (refExpired_any tick L rb ro1 zn _ HT5.out.r HLL.out.2).mono ?_; rintro e w7 ⟨k7, v7, rfl, hk7, hlow, hend, hrow, hC7, hf7⟩; obtain ⟨A7, c7, rfl⟩ := own_formI hrow; have HTD := Lib.hid (HG.out.told HT.out.c.one HE5.out HO5.out hk7 hlow hend); have HR2 := Lib.hid HTD.out.2; have HQ7 := Lib.hid (HT5.out.second hC7 (fun g hg => .inl hg) hf7); have S7 := HQ7.out.keep3; have HS5 := Lib.hid (SlI.of_row (own_fr HW5.out hf7 (fun g hg => by rw [List.mem_singleton.1 hg]; exact HT.out.drew.r.lt rb HT.out.drew.r.1))); have HS7 := Lib.hid (show SlI w7 A7 (min k7 L.length) ((L.take k7).map (fun x => x.1)) by have h := SlI.of_row hrow; rwa [List.length_map, List.length_take] at h); have HEQ := Lib.hid (decide_eq_true HTD.out.1); clear hk7 hlow hend hrow hC7 hf7)
          | (go_at_call 19; refine (sameLongs_any A5 A7 E.length _ c5 c7 E ((L.take k7).map (fun x => x.1)) _ HS5.out HS7.out HN5.out).mono ?_; rintro e w' ⟨rfl, q8, rfl⟩; rw [HEQ.out]; have HZ := Lib.hid (HQ7.out.drewN q8); have S8 := HZ.out.keep3))
        all_goals (
          generalize w7.drewN q8 = W9 at *
          generalize lateK K zn = K8 at *
          obtain ⟨A7, c7, _, m1, _⟩ := HZ.out.drew.r.cells
          have hll := HR2.out.len
          have HR := Lib.hid (fun i (hi : i = Value.int .i64 ↑(k + 1)) => ClR.of (i := i) HZ.out.drew hi (show k + 1 ≤ n by omega) HR2.out HL2.out)
          have cLen := clkLen_any tick _ bc _ _ HZ.out.drew.c
          rw [hll] at m1
          clear hll
          generalize K8.length = kl at *
          go_wp2_with fail
          go_region_with (first | (go_at_call 24; refine cLen.mono ?_; rintro e w' ⟨rfl, rfl⟩))
          all_goals (
            go_wp2_with fail
            go_roundw
            case rel => exact HR.out _ (by go_num)
            case measure => simp [RowKit.intOf]; omega))
      by_cases hk4 : zk = 4
      · subst hk4
        have HL2 := Lib.hid (show K.length ≤ k + 1 from Nat.le_trans HL.out (by omega))
        have HR2 := HG
        obtain ⟨gg, HGG⟩ : ∃ gg, Hid (getK K zi = gg) := ⟨_, Lib.hid rfl⟩
        have HGL := Lib.hid (show getK L zi = gg by rw [getK_perm HG.out.1 HT.out.c.one]; exact HGG.out)
        go_wp2_with fail
        go_at_call 14
        refine (deadline_any tick _ bc _ zi HWI.out _ HT.out.c).mono ?_
        rintro e w' ⟨rfl, rfl⟩
        rw [HGG.out]
        go_wp2_with fail
        go_at_call 21
        refine (refDead_any tick L rb ro1 zi _ HT.out.r HONE.out.2 (Nat.le_trans HLL.out.2 (by decide))).mono ?_
        rintro e w' ⟨rfl, rfl⟩
        rw [HGL.out]
        go_wp2_with fail
        go_at_call 22
        refine (next_any tick K bc own1 _ HT.out.c (Nat.le_trans HLL.out.1 (by decide))).mono ?_
        rintro e w5 ⟨⟨m, rfl, hm0, hm1⟩, hb5⟩
        have HZ := Lib.hid (HT.out.heap hb5)
        have HNX := Lib.hid (show (if 0 < L.length then L[0]!.2 else 0) = m ∧ decide (0 < L.length) = decide (0 < K.length) by
          rw [HG.out.len]
          refine ⟨?_, rfl⟩
          by_cases h0 : 0 < K.length
          · rw [if_pos h0]
            exact (HG.out.next (hm1 h0).1 (hm1 h0).2).2
          · rw [if_neg h0]
            exact (hm0 (by omega)).symm)
        clear hm0 hm1 hb5
        go_wp2_with fail
        go_at_call 23
        refine (refNext_any tick L rb ro1 _ HZ.out.r).mono ?_
        rintro e w' ⟨rfl, rfl⟩
        rw [HNX.out.1, HNX.out.2]
        generalize gg.getD 0 = g1 at *
        generalize gg.isSome = g2 at *
        generalize decide (0 < K.length) = g3 at *
        obtain ⟨K8, hK8⟩ : ∃ K8, K8 = K := ⟨_, rfl⟩
        subst hK8
        cases g2 <;> cases g3
        all_goals (
          obtain ⟨A7, c7, _, m1, _⟩ := HZ.out.drew.r.cells
          have hll := HR2.out.len
          have HR := Lib.hid (fun i (hi : i = Value.int .i64 ↑(k + 1)) => ClR.of (i := i) HZ.out.drew hi (show k + 1 ≤ n by omega) HR2.out HL2.out)
          have cLen := clkLen_any tick _ bc _ _ HZ.out.drew.c
          rw [hll] at m1
          clear hll
          generalize K8.length = kl at *
          go_wp2_with fail
          go_region_with (first | (go_at_call 24; refine cLen.mono ?_; rintro e w' ⟨rfl, rfl⟩))
          all_goals (
            go_wp2_with fail
            go_roundw
            case rel => exact HR.out _ (by go_num)
            case measure => simp [RowKit.intOf]; omega))
      · have e1 : (zk == 1) = false := by simpa using hk1
        have e2 : (zk == 2) = false := by simpa using hk2
        have e3 : (zk == 3) = false := by simpa using hk3
        have e4 : (zk == 4) = false := by simpa using hk4
        clear hk1 hk2 hk3 hk4
        have HZ := HT
        have HR2 := HG
        have HL2 := Lib.hid (show K.length ≤ k + 1 from Nat.le_trans HL.out (by omega))
        obtain ⟨K8, hK8⟩ : ∃ K8, K8 = K := ⟨_, rfl⟩
        subst hK8
        obtain ⟨A7, c7, _, m1, _⟩ := HZ.out.drew.r.cells
        have hll := HR2.out.len
        have HR := Lib.hid (fun i (hi : i = Value.int .i64 ↑(k + 1)) => ClR.of (i := i) HZ.out.drew hi (show k + 1 ≤ n by omega) HR2.out HL2.out)
        have cLen := clkLen_any tick _ bc _ _ HZ.out.drew.c
        rw [hll] at m1
        clear hll
        generalize K8.length = kl at *
        go_wp2_with fail
        go_region_with (first | (go_at_call 24; refine cLen.mono ?_; rintro e w' ⟨rfl, rfl⟩))
        all_goals (
          go_wp2_with fail
          go_roundw
          case rel => exact HR.out _ (by go_num)
          case measure => simp [RowKit.intOf]; omega)
    · have hkn2 : ¬ ((k : Nat) : Int) < (n : Int) := by omega
      have HB := Lib.hid h7
      clear h1 h2 h3 h4 h5 h6 h7 h8
      go_wp2_with fail
      go_ret
      exact ⟨rfl, HB.out⟩
end Go.Proofs.YtfnigjeklcagnaaGreatDoor

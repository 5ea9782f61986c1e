/- The walk of arborlaw08.SessionApart. Conditions: the script has at most 1048576 beats; its numbers are int64, int32. -/
import Derived.Test.YtfnigjeklcagnaaGreatDoorApartP
import Derived.Test.YtfnigjeklcagnaaGreatDoorAliveP
import Derived.Deep.RegionWith
namespace Go.Proofs.YtfnigjeklcagnaaGreatDoor
open Go.RowKit Go.MapKept Go.Maps
set_option maxRecDepth 100000 in
set_option maxHeartbeats 4000000 in
theorem sessionApart_any (tick : Int) (A : Option Addr) (n c : Nat) (l : List BeatV) (id : Int) (w : World) (hid : wfI id) (hx : SlB w A n l) (hn : n ≤ 1048576) (wfl : ∀ j, j < n → wfB l[j]!) :
    Calls Tryz.prog 3 #[.int .i64 tick, .slice A n c, .int .i64 id] w fun e w' => e = .returned (.bool true) ∧ Below w.heap.size w w' := by
  have HX := Lib.hid hx; have HW := Lib.hid wfl
  clear hx wfl
  go_enter Tryz.func3, Tryz.ntmps3
  go_wp2_with fail
  refine (live8_any _).mono ?_
  rintro e w1 ⟨rfl, hb1⟩
  have HB1 := Lib.hid hb1; clear hb1
  go_wp2_with fail
  go_at_call 9
  refine (newClock_any _ _).mono ?_
  rintro e w2 ⟨hC, hb2⟩
  by_cases ht : 1 ≤ tick ∧ tick ≤ 1099511627776
  case neg =>
    rw [if_neg ht] at hC
    subst hC
    have HB2 := Lib.hid (HB1.out.trans (hb2.mono HB1.out.size))
    clear hb2
    go_wp2_with fail
    go_at_call 9
    refine (newClock_any _ _).mono ?_
    rintro e w3 ⟨hC, hb3⟩
    rw [if_neg ht] at hC
    subst hC
    have HB3 := Lib.hid (HB2.out.trans (hb3.mono HB2.out.size))
    clear hb3 ht
    go_wp2_with fail
    go_ret
    exact ⟨rfl, HB3.out⟩
  case pos =>
  rw [if_pos ht] at hC
  obtain ⟨bc, own, rfl, hC, hown⟩ := hC
  have HB2 := Lib.hid (HB1.out.trans (hb2.mono HB1.out.size))
  have HC := Lib.hid hC
  have HO := Lib.hid (show ∀ g ∈ own, w.heap.size ≤ g from fun g hg => Nat.le_trans HB1.out.size (hown g hg))
  clear hb2 hC hown
  go_wp2_with fail
  go_at_call 9
  refine (newClock_any _ _).mono ?_
  rintro e w3 ⟨hC, hb3⟩
  rw [if_pos ht] at hC
  obtain ⟨bd, ownd, rfl, hC, hown⟩ := hC
  have HB3 := Lib.hid (HB2.out.trans (hb3.mono HB2.out.size))
  have HA := Lib.hid (show ∀ g ∈ own, g ∉ ownd from fun g hg hm => by have := HC.out.lt g hg; have := hown g hm; omega)
  have HCC := Lib.hid (HC.out.below hb3)
  have HD := Lib.hid hC
  have HOD := Lib.hid (show ∀ g ∈ ownd, w.heap.size ≤ g from fun g hg => Nat.le_trans HB2.out.size (hown g hg))
  obtain ⟨ht1, ht2⟩ := ht
  clear hb3 hC hown HB2 HB1 HC
  go_wp2_with fail
  go_loopw [11] (fun i wr => ApR tick id bc bd n w i wr) (fun i _ => n - (intOf i).toNat)
  case atStart => exact ⟨0, [], [], own, ownd, rfl, Nat.zero_le _, HCC.out, HD.out, HA.out, HO.out, HOD.out, HB3.out, rfl, Nat.le_refl _, Nat.le_refl _⟩
  case round =>
    obtain ⟨k, K, K', own1, own2, rfl, hk, h1, h2, h3, h4, h5, h6, h7, h8, h9⟩ := hrel
    by_cases hkn : k < n
    · have hkn2 : ((k : Nat) : Int) < (n : Int) := by omega
      obtain ⟨b, off, hA, y0, y1, y2, y3⟩ := (HX.out.below h6).2 k hkn
      subst hA
      obtain ⟨w0, wi, wt, wn⟩ := HW.out k hkn
      generalize l[k]! = z at *
      obtain ⟨zk, zi, zt, zn⟩ := z
      dsimp only at y0 y1 y2 y3 w0 wi wt wn
      have HT := Lib.hid (Thr.start (z := (zk, zi, zt, zn)) h1 h2 h3 h4 h5 h6)
      have HG := Lib.hid h7
      have HL := Lib.hid (And.intro h8 h9)
      have HWI := Lib.hid wi; have HWT := Lib.hid wt; have HWN := Lib.hid wn
      clear h1 h2 h3 h4 h5 h6 h7 h8 h9 w0 wi wt wn HCC HD HA HO HOD HB3
      by_cases hk1 : zk = 1
      · subst hk1
        go_wp2_with fail
        go_at_call 10
        refine (touch_all tick K bc own1 zi zt zn _ HT.out.c HWI.out HWT.out.2 ht1 ht2).mono ?_
        rintro e w5 ⟨rfl, ⟨own5, hC5, hs5⟩, hf5⟩
        have HT5 := Lib.hid (HT.out.first hC5 hs5 hf5)
        clear hC5 hs5 hf5 y0 y1 y2 y3
        have x1 : w5.cell? ⟨wr.heap.size, 1, none⟩ = some (.int .i64 zi) := HT5.out.z1
        have x2 : w5.cell? ⟨wr.heap.size, 2, none⟩ = some (.int .i32 zt) := HT5.out.z2
        have x3 : w5.cell? ⟨wr.heap.size, 3, none⟩ = some (.int .i64 zn) := HT5.out.z3
        obtain ⟨te, HTE⟩ : ∃ te, Hid (touchE zi zt zn = te) := ⟨_, Lib.hid rfl⟩
        rw [HTE.out]
        by_cases hq : zi = id
        · have hqb : (zi == id) = true := by simpa using hq
          have HQ := Lib.hid hq
          clear hq
          go_wp2_with fail
          go_at_call 10
          refine (touch_all tick K' bd own2 zi zt zn _ HT5.out.d HWI.out HWT.out.2 ht1 ht2).mono ?_
          rintro e w6 ⟨rfl, ⟨own6, hC6, hs6⟩, hf6⟩
          rw [HTE.out]
          have HZ := Lib.hid (HT5.out.second hC6 hs6 hf6)
          have HG2 := Lib.hid (show getK (touchK K tick zi zt zn) id = getK (touchK K' tick zi zt zn) id by rw [HQ.out]; exact touch_same HG.out)
          have HL2 := Lib.hid (show (touchK K tick zi zt zn).length ≤ k + 1 ∧ (touchK K' tick zi zt zn).length ≤ k + 1 from ⟨Nat.le_trans (touch_len ..) (by have := HL.out.1; omega), Nat.le_trans (touch_len ..) (by have := HL.out.2; omega)⟩)
          clear hC6 hs6 hf6 x1 x2 x3
          generalize touchK K' tick zi zt zn = K9 at *
          generalize touchK K tick zi zt zn = K8 at *
          go_wp2_with fail
          go_at_call 14
          refine (deadline_any tick _ bc _ id hid _ HZ.out.c).mono ?_
          rintro e w' ⟨rfl, rfl⟩
          rw [HG2.out]
          go_wp2_with fail
          go_at_call 14
          refine (deadline_any tick _ bd _ id hid _ HZ.out.d).mono ?_
          rintro e w' ⟨rfl, rfl⟩
          have HR := Lib.hid (fun i (hi : i = Value.int .i64 ↑(k + 1)) => ApR.of (id := id) (i := i) HZ.out hi (show k + 1 ≤ n by omega) HG2.out HL2.out.1 HL2.out.2)
          generalize (getK K9 id).getD 0 = aa at *
          generalize (getK K9 id).isSome = bb at *
          cases bb
          all_goals (
            go_wp2_with fail
            go_roundw
            case rel => exact HR.out _ (by go_num)
            case measure => simp [intOf]; omega)
        · have hqb : (zi == id) = false := by simpa using hq
          have HZ := HT5
          have HG2 := Lib.hid (show getK (touchK K tick zi zt zn) id = getK K' id by rw [touch_other hq]; exact HG.out)
          have HL2 := Lib.hid (show (touchK K tick zi zt zn).length ≤ k + 1 ∧ K'.length ≤ k + 1 from ⟨Nat.le_trans (touch_len ..) (by have := HL.out.1; omega), Nat.le_trans HL.out.2 (by omega)⟩)
          clear hq
          generalize touchK K tick zi zt zn = K8 at *
          obtain ⟨K9, hK9⟩ : ∃ K9, K9 = K' := ⟨_, rfl⟩
          subst hK9
          go_wp2_with fail
          go_at_call 14
          refine (deadline_any tick _ bc _ id hid _ HZ.out.c).mono ?_
          rintro e w' ⟨rfl, rfl⟩
          rw [HG2.out]
          go_wp2_with fail
          go_at_call 14
          refine (deadline_any tick _ bd _ id hid _ HZ.out.d).mono ?_
          rintro e w' ⟨rfl, rfl⟩
          have HR := Lib.hid (fun i (hi : i = Value.int .i64 ↑(k + 1)) => ApR.of (id := id) (i := i) HZ.out hi (show k + 1 ≤ n by omega) HG2.out HL2.out.1 HL2.out.2)
          generalize (getK K9 id).getD 0 = aa at *
          generalize (getK K9 id).isSome = bb at *
          cases bb
          all_goals (
            go_wp2_with fail
            go_roundw
            case rel => exact HR.out _ (by go_num)
            case measure => simp [intOf]; omega)
      by_cases hk2 : zk = 2
      · subst hk2
        go_wp2_with fail
        go_at_call 11
        refine (drop_any tick K bc own1 zi HWI.out _ HT.out.c).mono ?_
        rintro e w5 ⟨rfl, ⟨own5, hC5, hs5⟩, hf5⟩
        have HT5 := Lib.hid (HT.out.first hC5 hs5 hf5)
        clear hC5 hs5 hf5 y0 y1 y2 y3
        have x1 : w5.cell? ⟨wr.heap.size, 1, none⟩ = some (.int .i64 zi) := HT5.out.z1
        by_cases hq : zi = id
        · have hqb : (zi == id) = true := by simpa using hq
          have HQ := Lib.hid hq
          clear hq
          have HGK := Lib.hid (show getK K zi = getK K' zi by rw [HQ.out]; exact HG.out)
          rw [HGK.out]
          go_wp2_with fail
          go_at_call 11
          refine (drop_any tick K' bd own2 zi HWI.out _ HT5.out.d).mono ?_
          rintro e w6 ⟨rfl, ⟨own6, hC6, hs6⟩, hf6⟩
          have HZ := Lib.hid (HT5.out.second hC6 hs6 hf6)
          have HG2 := Lib.hid (show getK (dropK K zi) id = getK (dropK K' zi) id by rw [HQ.out]; exact drop_same)
          have HL2 := Lib.hid (show (dropK K zi).length ≤ k + 1 ∧ (dropK K' zi).length ≤ k + 1 from ⟨Nat.le_trans (drop_len ..) (by have := HL.out.1; omega), Nat.le_trans (drop_len ..) (by have := HL.out.2; omega)⟩)
          clear hC6 hs6 hf6 x1
          generalize dropK K' zi = K9 at *
          generalize dropK K zi = K8 at *
          generalize (getK K' zi).isSome = dd at *
          cases dd
          all_goals (
            go_wp2_with fail
            go_at_call 14
            refine (deadline_any tick _ bc _ id hid _ HZ.out.c).mono ?_
            rintro e w' ⟨rfl, rfl⟩
            rw [HG2.out]
            go_wp2_with fail
            go_at_call 14
            refine (deadline_any tick _ bd _ id hid _ HZ.out.d).mono ?_
            rintro e w' ⟨rfl, rfl⟩
            have HR := Lib.hid (fun i (hi : i = Value.int .i64 ↑(k + 1)) => ApR.of (id := id) (i := i) HZ.out hi (show k + 1 ≤ n by omega) HG2.out HL2.out.1 HL2.out.2)
            generalize (getK K9 id).getD 0 = aa at *
            generalize (getK K9 id).isSome = bb at *
            cases bb
            all_goals (
              go_wp2_with fail
              go_roundw
              case rel => exact HR.out _ (by go_num)
              case measure => simp [intOf]; omega))
        · have hqb : (zi == id) = false := by simpa using hq
          have HZ := HT5
          have HG2 := Lib.hid (show getK (dropK K zi) id = getK K' id by rw [drop_other hq]; exact HG.out)
          have HL2 := Lib.hid (show (dropK K zi).length ≤ k + 1 ∧ K'.length ≤ k + 1 from ⟨Nat.le_trans (drop_len ..) (by have := HL.out.1; omega), Nat.le_trans HL.out.2 (by omega)⟩)
          clear hq
          generalize dropK K zi = K8 at *
          obtain ⟨K9, hK9⟩ : ∃ K9, K9 = K' := ⟨_, rfl⟩
          subst hK9
          go_wp2_with fail
          go_at_call 14
          refine (deadline_any tick _ bc _ id hid _ HZ.out.c).mono ?_
          rintro e w' ⟨rfl, rfl⟩
          rw [HG2.out]
          go_wp2_with fail
          go_at_call 14
          refine (deadline_any tick _ bd _ id hid _ HZ.out.d).mono ?_
          rintro e w' ⟨rfl, rfl⟩
          have HR := Lib.hid (fun i (hi : i = Value.int .i64 ↑(k + 1)) => ApR.of (id := id) (i := i) HZ.out hi (show k + 1 ≤ n by omega) HG2.out HL2.out.1 HL2.out.2)
          generalize (getK K9 id).getD 0 = aa at *
          generalize (getK K9 id).isSome = bb at *
          cases bb
          all_goals (
            go_wp2_with fail
            go_roundw
            case rel => exact HR.out _ (by go_num)
            case measure => simp [intOf]; omega)
      by_cases hk3 : zk = 3
      · subst hk3
        have HLK := Lib.hid (show K.length ≤ 2097152 ∧ K'.length ≤ 2097152 from by have := HL.out; omega)
        have HONE := Lib.hid (And.intro HT.out.c.one HT.out.d.one)
        have HG2 := Lib.hid (show getK (lateK K zn) id = getK (lateK K' zn) id from late_same HONE.out.1 HONE.out.2 HG.out)
        have HOV := Lib.hid (show id ∈ overK K zn ↔ id ∈ overK K' zn from over_same HONE.out.1 HONE.out.2 HG.out)
        have HL2 := Lib.hid (show (lateK K zn).length ≤ k + 1 ∧ (lateK K' zn).length ≤ k + 1 from ⟨Nat.le_trans (late_len ..) (by have := HL.out.1; omega), Nat.le_trans (late_len ..) (by have := HL.out.2; omega)⟩)
        clear HG HL HONE
        go_wp2_with fail
        clear y0 y1 y2 y3
        go_region_with (first
          | (go_at_call_of 13 bc; refine (expired_any tick K bc own1 zn _ HT.out.drew.c HLK.out.1).mono ?_; rintro e w5 ⟨⟨E, v5, rfl, hr, hE, hN⟩, ⟨own5, hC5, hs5⟩, hf5⟩; obtain ⟨A5, c5, rfl⟩ := own_formI hr; have HT5 := Lib.hid (HT.out.drew.first hC5 hs5 hf5); have HR5 := Lib.hid (SlI.of_row hr); have HE5 := Lib.hid hE; have HN5 := Lib.hid (Nat.le_trans (Nat.le_trans (exp_len hE hN) HLK.out.1) (by decide : 2097152 ≤ 281474976710656)); obtain ⟨d, HD5⟩ : ∃ d, Hid (decide (id ∈ E) = d) := ⟨_, Lib.hid rfl⟩; have x5 : w5.cell? ⟨wr.heap.size, 3, none⟩ = some (.int .i64 zn) := HT5.out.z3; clear hr hE hN hC5 hs5 hf5)
          | (go_at_call_of 12 A5; refine (among_any A5 E.length c5 E id _ HR5.out HN5.out).mono ?_; rintro e w' ⟨rfl, q5, rfl⟩; rw [HD5.out]; have HT6 := Lib.hid (HT5.out.drewN q5))
          | (go_at_call_of 13 bd; refine (expired_any tick K' bd own2 zn _ HT6.out.d HLK.out.2).mono ?_; rintro e w7 ⟨⟨E7, v7, rfl, hr, hE, hN⟩, ⟨own7, hC7, hs7⟩, hf7⟩; obtain ⟨A7, c7, rfl⟩ := own_formI hr; have HT7 := Lib.hid (HT6.out.second hC7 hs7 hf7); have HR7 := Lib.hid (SlI.of_row hr); have HN7 := Lib.hid (Nat.le_trans (Nat.le_trans (exp_len hE hN) HLK.out.2) (by decide : 2097152 ≤ 281474976710656)); have HD7 := Lib.hid (show decide (id ∈ E7) = d by rw [← HD5.out]; exact decide_eq_decide.2 ((hE id).trans (HOV.out.symm.trans (HE5.out id).symm))); clear hr hE hN hC7 hs7 hf7)
          | (go_at_call_of 12 A7; refine (among_any A7 E7.length c7 E7 id _ HR7.out HN7.out).mono ?_; rintro e w' ⟨rfl, q7, rfl⟩; rw [HD7.out]; have HZ := Lib.hid (HT7.out.drewN q7)))
        all_goals (
          generalize lateK K' zn = K9 at *
          generalize lateK K zn = K8 at *
          cases d
          all_goals (
            go_wp2_with fail
            go_at_call 14
            refine (deadline_any tick _ bc _ id hid _ HZ.out.c).mono ?_
            rintro e w' ⟨rfl, rfl⟩
            rw [HG2.out]
            go_wp2_with fail
            go_at_call 14
            refine (deadline_any tick _ bd _ id hid _ HZ.out.d).mono ?_
            rintro e w' ⟨rfl, rfl⟩
            have HR := Lib.hid (fun i (hi : i = Value.int .i64 ↑(k + 1)) => ApR.of (id := id) (i := i) HZ.out hi (show k + 1 ≤ n by omega) HG2.out HL2.out.1 HL2.out.2)
            generalize (getK K9 id).getD 0 = aa at *
            generalize (getK K9 id).isSome = bb at *
            cases bb
            all_goals (
              go_wp2_with fail
              go_roundw
              case rel => exact HR.out _ (by go_num)
              case measure => simp [intOf]; omega)))
      · have e1 : (zk == 1) = false := by simpa using hk1
        have e2 : (zk == 2) = false := by simpa using hk2
        have e3 : (zk == 3) = false := by simpa using hk3
        clear hk1 hk2 hk3
        have HZ := HT
        have HG2 := HG
        have HL2 := Lib.hid (show K.length ≤ k + 1 ∧ K'.length ≤ k + 1 from ⟨Nat.le_trans HL.out.1 (by omega), Nat.le_trans HL.out.2 (by omega)⟩)
        obtain ⟨K9, hK9⟩ : ∃ K9, K9 = K' := ⟨_, rfl⟩
        subst hK9
        go_wp2_with fail
        go_at_call 14
        refine (deadline_any tick _ bc _ id hid _ HZ.out.c).mono ?_
        rintro e w' ⟨rfl, rfl⟩
        rw [HG2.out]
        go_wp2_with fail
        go_at_call 14
        refine (deadline_any tick _ bd _ id hid _ HZ.out.d).mono ?_
        rintro e w' ⟨rfl, rfl⟩
        have HR := Lib.hid (fun i (hi : i = Value.int .i64 ↑(k + 1)) => ApR.of (id := id) (i := i) HZ.out hi (show k + 1 ≤ n by omega) HG2.out HL2.out.1 HL2.out.2)
        generalize (getK K9 id).getD 0 = aa at *
        generalize (getK K9 id).isSome = bb at *
        cases bb
        all_goals (
          go_wp2_with fail
          go_roundw
          case rel => exact HR.out _ (by go_num)
          case measure => simp [intOf]; omega)
    · have hkn2 : ¬ ((k : Nat) : Int) < (n : Int) := by omega
      have HB := Lib.hid h6
      clear h1 h2 h3 h4 h5 h6 h7 h8 h9
      go_wp2_with fail
      go_ret
      exact ⟨rfl, HB.out⟩
end Go.Proofs.YtfnigjeklcagnaaGreatDoor

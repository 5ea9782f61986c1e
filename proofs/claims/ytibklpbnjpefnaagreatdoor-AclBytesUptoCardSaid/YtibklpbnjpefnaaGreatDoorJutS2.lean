/- The walk of the document's Reader's Count. Condition: at most 2^20 bytes. -/
import Derived.Test.YtibklpbnjpefnaaGreatDoorJutS
namespace Go.Proofs.YtibklpbnjpefnaaGreatDoor
open Go.RowKit Go.MapKept Go.Maps
theorem countP_k {l : Bs} {m k q q2 z : Nat} (hs : sizeP l m q = .ok (z, q2)) : countP l m k q = if 1 ≤ k ∧ (l.length - q2) / k < z then .error (q, 20) else .ok (z, q2) := by
  unfold countP; rw [hs]; rfl
theorem sizeP_big {l : Bs} {m q q2 : Nat} {z : Int} (h : intP l q = .ok (z, q2)) (hc : z < 0 ∨ (m : Int) < z) : sizeP l m q = .error (q, 22) := by
  unfold sizeP; rw [h]; simp [PR.then, hc]
theorem sizeP_fit {l : Bs} {m q q2 Z : Nat} (h : intP l q = .ok ((Z : Int), q2)) (hc : ¬ m < Z) : sizeP l m q = .ok (Z, q2) := by
  unfold sizeP; rw [h]; simp [PR.then, hc, show ¬ (Z : Int) < 0 by omega]
set_option maxRecDepth 100000 in
set_option maxHeartbeats 1000000 in
theorem rfCount_any {w : World} {rb n c q : Nat} {A : Option Addr} {l : Bs} (mi : Int) (m : Nat) (hmi : mi = (m : Int)) (ki : Int) (k : Nat) (hki : ki = (k : Int)) (hk : 1 ≤ k) (hk2 : k ≤ 1048576) (h : Rf w rb A n c l q 0) :
    Calls Tryz.prog 51 #[.pointer (some ⟨rb, 0, none⟩), .int .i64 mi, .int .i64 ki] w (RfOut rb A n c l w (countP l m k q) (fun v u _ => u = .int .i64 (v : Int)) (.int .i64 0)) := by
  subst hmi; subst hki
  have hN := rfInt_any h
  have hs := h.small; have ha := h.at_; have hl := h.len
  have k1 := h.c1
  clear h
  go_enter Tryz.func51, Tryz.ntmps51
  go_wp2_with fail
  rcases hT : stP 0 q (intP l q) with ⟨q2, e0⟩ | ⟨z, q2⟩
  · have HG := Lib.hid (show countP l m k q = .error (q2, e0) by
      unfold stP at hT
      rw [if_pos rfl] at hT
      unfold countP sizeP; rw [hT]; rfl)
    rw [hT] at hN
    refine hN.mono ?_
    rintro e2 w1 ⟨hf, hk, rfl, hr⟩
    have c2 := hr.c2
    have hk2 : (e0 != 0) = true := by simpa using hk
    have HR := Lib.hid hr; have HF := Lib.hid hf; have HK := Lib.hid hk
    clear hr hf hk hN
    go_wp2_with fail
    go_ret
    rw [HG.out]
    exact ⟨HF.out, HK.out, rfl, HR.out⟩
  · have hI : intP l q = .ok (z, q2) := by unfold stP at hT; rwa [if_pos rfl] at hT
    obtain ⟨hq2, z1, z2⟩ := intP_ok hI
    have hq3 : q ≤ q2 := by omega
    clear hq2
    rw [hT] at hN
    refine hN.mono ?_
    rintro e2 w1 ⟨hf, ⟨u, rfl, rfl⟩, hr⟩
    have k0 := hr.c0; have k1b := hr.c1; have k2 := hr.c2; have f1 := hr.f1 1
    have hz : IntKind.i64.wrap z = z := IntWalk.i64_in _ (by omega)
    have hqn := hr.at_
    have HR := Lib.hid hr; have HF := Lib.hid hf
    have hw : IntKind.i64.wrap ((n : Int) - (q2 : Int)) = (n : Int) - (q2 : Int) := IntWalk.i64_in _ (by omega)
    have fin : ∀ (W : World) (e : Int), e ≠ 0 → countP l m k q = .error (q, e) → Rf W rb A n c l q2 0 → Fr [rb] w W → Rf (W.setCell ⟨rb, 1, none⟩ (.int .i64 (q : Int))) rb A n c l q 0 ∧
        ∀ W2, Rf W2 rb A n c l q e → Fr [rb] (W.setCell ⟨rb, 1, none⟩ (.int .i64 (q : Int))) W2 → RfOut rb A n c l w (countP l m k q) (fun v u _ => u = .int .i64 (v : Int)) (.int .i64 0) (.returned (.int .i64 0)) W2 := fun W e hk hG hr hf => by
      have hs := hr.set1 (q2 := q) (by omega)
      refine ⟨hs.1, fun W2 hr2 hf2 => ?_⟩
      rw [hG]
      exact ⟨(hf.transJ hs.2).transJ hf2, hk, rfl, hr2⟩
    have FIN := Lib.hid fin
    clear hr hf hN fin hT
    by_cases hc : z < 0 ∨ (m : Int) < z
    · have HG := Lib.hid (show countP l m k q = .error (q, 22) by
        unfold countP; rw [sizeP_big hI hc]; rfl)
      obtain ⟨hf1, hf2⟩ := FIN.out w1 22 (by decide) HG.out HR.out HF.out
      have HA := Lib.hid hf1; have HB := Lib.hid hf2
      clear hf1 hf2
      rcases Int.lt_or_le z 0 with h0 | h0
      · go_wp2_with fail
        refine (rfFail_any 22 HA.out).mono ?_
        rintro e3 w3 ⟨rfl, hr3, hf3⟩
        have HE := Lib.hid (HB.out _ hr3 hf3)
        clear hr3 hf3
        go_wp2_with fail
        go_ret
        exact HE.out
      · have h1 : (m : Int) < z := by omega
        have h2 : ¬ z < 0 := by omega
        go_wp2_with fail
        refine (rfFail_any 22 HA.out).mono ?_
        rintro e3 w3 ⟨rfl, hr3, hf3⟩
        have HE := Lib.hid (HB.out _ hr3 hf3)
        clear hr3 hf3
        go_wp2_with fail
        go_ret
        exact HE.out
    · have h1 : ¬ (m : Int) < z := by omega
      have h2 : ¬ z < 0 := by omega
      obtain ⟨Z, hZ⟩ : ∃ Z : Nat, z = (Z : Int) := ⟨z.toNat, by omega⟩
      have HS := Lib.hid (sizeP_fit (m := m) (show intP l q = .ok ((Z : Int), q2) by rw [← hZ]; exact hI) (by omega))
      have hk1 : ((k : Nat) : Int) ≥ 1 := by omega
      have hk0 : ¬ ((k : Nat) : Int) = 0 := by omega
      have hq : ((n : Int) - (q2 : Int)) / (k : Int) = (((n - q2) / k : Nat) : Int) := by
        rw [show (n : Int) - (q2 : Int) = ((n - q2 : Nat) : Int) by omega, ← Int.natCast_ediv]
      have hX : (n - q2) / k ≤ 1048576 := Nat.le_trans (Nat.div_le_self (n - q2) k) (by omega)
      have HZZ := Lib.hid hZ
      by_cases hd : (n - q2) / k < Z
      · have HG := Lib.hid (show countP l m k q = .error (q, 20) by
          rw [countP_k HS.out, if_pos ⟨hk, by rw [hl]; exact hd⟩])
        have h3 : (((n - q2) / k : Nat) : Int) < z := by omega
        have h5 : z > 0 := by have := Nat.zero_le ((n - q2) / k); omega
        have hqw : wrap64 (((n - q2) / k : Nat) : Int) = (((n - q2) / k : Nat) : Int) := by
          unfold wrap64
          generalize (n - q2) / k = X at hX ⊢
          omega
        generalize (n - q2) / k = X at hq h3 hd hqw hX
        clear hc hI hZ hd
        go_wp2_with fail
        go_quiet (fail)
        obtain ⟨hf1, hf2⟩ := FIN.out (w1.drewN nq) 20 (by decide) HG.out (HR.out.drewN nq) (HF.out.transJ (Fr.drewJ _ nq))
        have HA := Lib.hid hf1; have HB := Lib.hid hf2
        clear hf1 hf2
        go_wp2_with fail
        refine (rfFail_any 20 HA.out).mono ?_
        rintro e3 w3 ⟨rfl, hr3, hf3⟩
        have HE := Lib.hid (HB.out _ hr3 hf3)
        clear hr3 hf3
        go_wp2_with fail
        go_ret
        exact HE.out
      · have HG := Lib.hid (show countP l m k q = .ok (Z, q2) by
          rw [countP_k HS.out, if_neg (fun h => hd (by rw [hl] at h; exact h.2))])
        have hmz : (decide ((k : Int) ≥ 1)) = true := decide_eq_true hk1
        have h3 : ¬ (((n - q2) / k : Nat) : Int) < z := by omega
        have hqw : wrap64 (((n - q2) / k : Nat) : Int) = (((n - q2) / k : Nat) : Int) := by
          unfold wrap64
          generalize (n - q2) / k = X at hX ⊢
          omega
        generalize (n - q2) / k = X at hq h3 hd hqw hX
        clear hc hI hZ hd
        have h3b : decide ((X : Int) < z) = false := decide_eq_false h3
        rcases Int.lt_or_le 0 z with h5 | h5
        · have h5b : decide (z > 0) = true := decide_eq_true h5
          go_wp2_with fail
          go_quiet (fail)
          go_wp2_with fail
          go_ret
          rw [HG.out]
          exact ⟨HF.out.transJ (Fr.drewJ _ nq), ⟨_, rfl, congrArg (Value.int .i64) HZZ.out⟩, HR.out.drewN nq⟩
        · have h6 : ¬ z > 0 := by omega
          have h7 : decide (z > 0) = false := decide_eq_false h6
          have h8 : decide (0 < z) = false := decide_eq_false h6
          go_wp2_with fail
          go_quiet (fail)
          go_wp2_with fail
          go_ret
          rw [HG.out]
          exact ⟨HF.out.transJ (Fr.drewJ _ nq), ⟨_, rfl, congrArg (Value.int .i64) HZZ.out⟩, HR.out.drewN nq⟩
end Go.Proofs.YtibklpbnjpefnaaGreatDoor

/- The walk of arborlaw06.turned. -/
import Derived.Test.YtmchfdmnngngiaaDoorApp7
import Derived.Test.YtmchfdmnngngiaaDoorOrdP
namespace Go.Proofs.YtmchfdmnngngiaaDoor
open Go.RowKit
def TurnRel (l : List AclV) (n k : Nat) (w : World) (v i : Value) (wr : World) : Prop := ∃ (r : Nat), i = .int .i64 ((r : Int) - 1) ∧ r ≤ n ∧ (∃ A c, v = .slice A (n - r) c) ∧
  wr.ownsRow w.heap.size 42 3 v (n - r) ((backT (fun i => l[(i + k) % n]!) n r).flatMap encAcl) ∧ Below w.heap.size w wr
set_option maxRecDepth 100000 in
theorem turned_any (A : Option Addr) (n c : Nat) (l : List AclV) (k : Nat) (hk : k ≤ n) (w : World) (o : ArgA w A n c l) :
    Calls Tryd.prog 13 #[.slice A n c, .int .i64 k] w fun e w' => (∃ A' c', e = .returned (.slice A' n c') ∧ w'.ownsRow w.heap.size 42 3 (.slice A' n c') n ((backT (fun i => l[(i + k) % n]!) n 0).flatMap encAcl)) ∧ Below w.heap.size w w' := by
  have H := Lib.hid o
  have hn : n ≤ 1048576 := o.2.2.1
  clear o
  go_enter Tryd.func13, Tryd.ntmps13
  go_wp2
  go_loopw [5, 6] (fun v i wr => TurnRel l n k w v i wr) (fun _ i _ => (intOf i + 1).toNat)
  case atStart => exact ⟨n, by first | rfl | go_num, by omega, ⟨none, 0, by simp⟩, ⟨by simp [backT], .inl ⟨rfl, by omega⟩⟩, Below.refl _ _⟩
  case round =>
    obtain ⟨r, rfl, hr, ⟨A2, c2, rfl⟩, hv, hb⟩ := hrel
    have HB := Lib.hid hb; clear hb
    cases r with
    | zero =>
      have HV := Lib.hid hv; clear hv
      go_wp2
      go_ret
      exact ⟨⟨_, _, rfl, HV.out⟩, HB.out⟩
    | succ r =>
      have e : (((r + 1 : Nat) : Int) - 1) = (r : Int) := by omega
      rw [e]
      have hj : (r + k) % n < n := Nat.mod_lt _ (by omega)
      obtain ⟨b, off, rfl, hbl, x0, x1, x2⟩ := SlAcl.at_ (H.out.1.belowMore HB.out HB.out.size) hj
      clear e
      have hnp : 0 < n := by omega
      have q1 : (((r : Int) + (k : Int)).tmod (n : Int)) = (((r + k) % n : Nat) : Int) := by
        rw [Int.tmod_eq_emod_of_nonneg (by omega)]; push_cast; rfl
      have q2 : (0 : Int) ≤ (((r + k) % n : Nat) : Int) := by omega
      have q3 : (((r + k) % n : Nat) : Int) < (n : Int) := Int.ofNat_lt.2 hj
      have q4 : ((n : Int) == 0) = false := by simp; omega
      have HV := Lib.hid hv; clear hv
      generalize hjj : (r + k) % n = j at *
      have HJ := Lib.hid hjj; clear hjj
      generalize hxx : l[j]! = x at *
      have HXX := Lib.hid hxx; clear hxx
      obtain ⟨p, s, t⟩ := x
      have HN := Lib.hid (show n - (r + 1) + 1 ≤ 16777216 from by omega)
      have HR : Hid (n - (r + 1) + 1 = n - r ∧ r ≤ n ∧ r < n) := Lib.hid ⟨by omega, by omega, by omega⟩
      clear hnp hj
      go_wp2_with (at_builtin; refine wpList_appA rfl _ _ rfl w.heap.size A2 (n - (r + 1)) c2 (backT (fun i => l[(i + k) % n]!) n (r + 1)) rfl (HV.out.alloc _) (some ⟨wr.heap.size, 0, none⟩) 1 1 [(p, s, t)] rfl (sl_acl (by simp) (by simp) (by simp)) (fun e => by cases e) HN.out (by have := HB.out.size; simp only [World.size_alloc]; omega) ?hk)
      case hk =>
        intro A4 c4 w4 hv4 hb4
        have e1 : backT (fun i => l[(i + k) % n]!) n r = backT (fun i => l[(i + k) % n]!) n (r + 1) ++ [(p, s, t)] := by
          rw [backT_step _ n r HR.out.2.2]
          simp only [HJ.out, HXX.out]
        have HV4 : Hid (w4.ownsRow w.heap.size 42 3 (.slice A4 (n - r) c4) (n - r) ((backT (fun i => l[(i + k) % n]!) n r).flatMap encAcl)) := Lib.hid (by
          rw [e1, List.flatMap_append, List.flatMap_singleton]; rw [HR.out.1] at hv4; simpa using hv4)
        have HB4 := Lib.hid ((HB.out.alloc HB.out.size _).trans hb4)
        rw [HR.out.1]
        clear hv4 hb4 e1
        go_wp2
        go_roundw
        case rel => exact ⟨r, by first | rfl | go_num, HR.out.2.1, ⟨A4, c4, rfl⟩, HV4.out, HB4.out⟩
        case measure => simp [intOf]
theorem backT_mem {α : Type} {g : Nat → α} {n r : Nat} {x : α} (h : x ∈ backT g n r) : ∃ i, i < n ∧ g i = x := by
  simp only [backT, List.mem_map, List.mem_reverse, List.mem_range'_1] at h
  obtain ⟨i, hi, e⟩ := h
  exact ⟨i, by omega, e⟩
theorem bang_in {α : Type} [Inhabited α] {L : List α} {j : Nat} (h : j < L.length) : L[j]! ∈ L := by
  rw [getElem!_pos L j h]; exact List.getElem_mem _
theorem turn_mod (k n : Int) (hk : 0 ≤ k) (hn : 0 ≤ n) : ∃ m : Nat, k.tmod (n + 1) = (m : Int) ∧ (m : Int) ≤ n := by
  rw [Int.tmod_eq_emod_of_nonneg hk]
  have h1 := Int.emod_nonneg k (show n + 1 ≠ 0 by omega)
  have h2 := Int.emod_lt_of_pos k (show 0 < n + 1 by omega)
  exact ⟨(k % (n + 1)).toNat, by omega, by omega⟩
def WhoRel (l : List IdV) (n : Nat) (w : World) (v i : Value) (wr : World) : Prop := ∃ (r : Nat), i = .int .i64 ((r : Int) - 1) ∧ r ≤ n ∧ (∃ A c, v = .slice A (n - r) c) ∧
  wr.ownsRow w.heap.size 27 2 v (n - r) ((backT (fun i => l[i]!) n r).flatMap encId) ∧ Below w.heap.size w wr
set_option maxRecDepth 100000 in
set_option maxHeartbeats 2000000 in
theorem aclOrder_any (A0 : Option Addr) (n0 c0 : Nat) (l0 : List AclV) (p : Int) (A2 : Option Addr) (n2 c2 : Nat) (l2 : List IdV) (k : Int) (w : World) (hE : Env w) (o0 : ArgA w A0 n0 c0 l0) (o2 : ArgI w A2 n2 c2 l2) (hk0 : -9223372036854775808 ≤ k) (hk1 : k ≤ 9223372036854775807) :
    Calls Tryd.prog 3 #[.slice A0 n0 c0, .int .i32 p, .slice A2 n2 c2, .int .i64 k] w (RetB w true) := by
  obtain ⟨m0, HM0⟩ : ∃ m, Hid (mayP l0 p l2 = m) := ⟨_, Lib.hid rfl⟩
  have cL : ∀ W, Below w.heap.size w W → Calls Tryd.prog 12 #[.slice A0 n0 c0, .int .i32 p, .slice A2 n2 c2] W (RetB W m0) := fun W hb => by
    rw [← HM0.out]; exact may_any _ _ _ _ _ _ _ _ _ _ (hE.later hb) (o0.below hb).1 o0.n_le (o2.below hb).1 o2.n_le o0.small o2.small
  have cT : ∀ (kk : Nat) W A c A' c', kk ≤ n0 → Below w.heap.size w W → Sl W W.heap.size encAcl 3 A n0 (backT (fun i => l0[(i + kk) % n0]!) n0 0) → Sl W W.heap.size encId 2 A' (n2 + n2) (backT (fun i => l2[i]!) n2 0 ++ l2) →
      Calls Tryd.prog 12 #[.slice A n0 c, .int .i32 p, .slice A' (n2 + n2) c'] W (RetB W m0) := fun kk W A c A' c' hkk hb hs hs' => by
    have hl0 := o0.1.len
    have hl2 := o2.1.len
    have q1 : ∀ f : IdV → Bool, (backT (fun i => l2[i]!) n2 0 ++ l2).any f = l2.any f := fun f => by
      have := backT_any l2 (fun i => i) (fun i h => h) (fun j hj => ⟨j, hj, rfl⟩) f
      rw [List.any_append, ← hl2, this, Bool.or_self]
    have q2 : ∀ f : AclV → Bool, (backT (fun i => l0[(i + kk) % n0]!) n0 0).any f = l0.any f := fun f => by
      have := backT_any l0 (fun i => (i + kk) % n0) (fun i h => by rw [← hl0]; exact Nat.mod_lt _ (by omega)) (fun j hj => by rw [← hl0]; exact turn_on l0.length kk j hj) f
      rw [← hl0] at this ⊢; exact this
    have q3 : (backT (fun i => l0[(i + kk) % n0]!) n0 0).isEmpty = l0.isEmpty := by
      have h1 := backT_len (fun i => l0[(i + kk) % n0]!) n0 0
      have h2 : (backT (fun i => l0[(i + kk) % n0]!) n0 0).length = l0.length := by rw [h1, hl0]; omega
      rw [Bool.eq_iff_iff, List.isEmpty_iff_length_eq_zero, List.isEmpty_iff_length_eq_zero, h2]
    have e : m0 = mayP (backT (fun i => l0[(i + kk) % n0]!) n0 0) p (backT (fun i => l2[i]!) n2 0 ++ l2) := by
      rw [mayP_ids q1, mayP_list q2 q3, HM0.out]
    rw [e]
    refine may_any _ _ _ _ _ _ _ _ _ _ (hE.later hb) hs o0.n_le hs' (by have := o2.2.2.1; omega) (fun j hj => ?_) (small_appI (by rw [backT_len]; omega) (fun j hj => ?_) o2.small)
    · obtain ⟨i, hi, e⟩ := backT_mem (bang_in (L := backT (fun i => l0[(i + kk) % n0]!) n0 0) (j := j) (by rw [backT_len]; omega))
      rw [← e]
      exact o0.small _ (Nat.mod_lt _ (by omega))
    · obtain ⟨i, hi, e⟩ := backT_mem (bang_in (L := backT (fun i => l2[i]!) n2 0) (j := j) (by rw [backT_len]; omega))
      rw [← e]
      exact o2.small _ hi
  have cD : ∀ W A c, Below w.heap.size w W → Sl W W.heap.size encAcl 3 A (n0 + n0) (l0 ++ l0) → Calls Tryd.prog 12 #[.slice A (n0 + n0) c, .int .i32 p, .slice A2 n2 c2] W (RetB W m0) := fun W A c hb hs => by
    have e : m0 = mayP (l0 ++ l0) p l2 := by
      rw [← HM0.out]
      refine (mayP_list (l := l0) (l' := l0 ++ l0) (fun f => by rw [List.any_append, Bool.or_self]) ?_ p l2).symm
      cases l0 <;> rfl
    rw [e]
    exact may_any _ _ _ _ _ _ _ _ _ _ (hE.later hb) hs (by have := o0.2.2.1; omega) (o2.below hb).1 o2.n_le (small_app o0.1.len o0.small o0.small) o2.small
  have HE := Lib.hid hE; clear hE
  have H0 := Lib.hid o0; clear o0
  have H2 := Lib.hid o2; clear o2
  have HL := Lib.hid cL; clear cL
  have HT := Lib.hid cT; clear cT
  have HD := Lib.hid cD; clear cD
  have hn2 : n2 ≤ 1048576 := H2.out.2.2.1
  have hn0 : n0 ≤ 1048576 := H0.out.2.2.1
  obtain ⟨k1, hk2, hk3, hkk⟩ : ∃ k1 : Int, 0 ≤ k1 ∧ k1 ≤ 9223372036854775807 ∧ k1 = if k < 0 then -(k + 1) else k := ⟨_, by split <;> omega, by split <;> omega, rfl⟩
  obtain ⟨kk, hm1, hm2⟩ := turn_mod k1 n0 hk2 (by omega)
  have HKK := Lib.hid (show kk ≤ n0 by omega)
  by_cases hneg : k < 0
  all_goals (
    first | rw [if_pos hneg] at hkk | rw [if_neg hneg] at hkk
    subst hkk
    go_enter Tryd.func3, Tryd.ntmps3
    go_wp2_with fail
    go_at_call 11
    refine (live_any _ HE.out).mono ?_
    rintro e w1 ⟨rfl, hb1⟩
    have HB1 := Lib.hid hb1; clear hb1
    go_wp2_with fail
    go_at_call 12
    refine (HL.out _ HB1.out).mono ?_
    rintro e w2 ⟨rfl, hb2⟩
    have HB2 := Lib.hid (HB1.out.trans (hb2.mono HB1.out.size)); clear hb2
    go_wp2_with fail
    go_loopw [10, 11] (fun v i wr => WhoRel l2 n2 w2 v i wr) (fun _ i _ => (intOf i + 1).toNat)
    case atStart => exact ⟨n2, by first | rfl | go_num, by omega, ⟨none, 0, by simp⟩, ⟨by simp [backT], .inl ⟨by simp, by omega⟩⟩, Below.refl _ _⟩
    case round =>
      obtain ⟨r, rfl, hr, ⟨A3, c3, rfl⟩, hv, hb⟩ := hrel
      have HSZ := Lib.hid hb.size
      have HBR := Lib.hid hb
      have HB := Lib.hid (HB2.out.trans (hb.mono HB2.out.size)); clear hb
      cases r with
      | zero =>
        simp only [Nat.sub_zero] at hv ⊢
        have HV := Lib.hid hv; clear hv
        have HN := Lib.hid (show n2 + n2 ≤ 16777216 by omega)
        have HN0 := Lib.hid (show n0 + n0 ≤ 16777216 by omega)
        have HBL := Lib.hid HB2.out.size
        go_wp2_with (at_builtin; refine wpList_appI rfl _ _ rfl w2.heap.size A3 n2 c3 (backT (fun i => l2[i]!) n2 0) rfl HV.out A2 n2 c2 l2 rfl (H2.out.below HB.out).1 H2.out.2.1 HN.out HSZ.out ?hk1)
        case hk1 =>
          intro A4 c4 w4 hv4 hb4
          have HV4 : Hid (Sl w4 w4.heap.size encId 2 A4 (n2 + n2) (backT (fun i => l2[i]!) n2 0 ++ l2)) := Lib.hid (Sl.of_own (fun _ => rfl) (by rw [List.flatMap_append]; simpa using hv4) (by rw [List.length_append, backT_len, H2.out.1.len]; omega))
          have HB4 := Lib.hid (HB.out.trans (hb4.mono HBL.out))
          clear hv4 hb4
          have hmm : (m0 == m0) = true := by cases m0 <;> rfl
          go_wp2_with fail
          go_at_call 13
          refine (turned_any A0 n0 c0 l0 kk HKK.out _ (H0.out.below HB4.out)).mono ?_
          rintro e w5 ⟨⟨A5, c5, rfl, hv5⟩, hb5⟩
          have HV5 := Lib.hid (Sl.of_own (zs := backT (fun i => l0[(i + kk) % n0]!) n0 0) (enc := encAcl) (k := 3) (fun _ => rfl) hv5 (by rw [backT_len]; omega)); clear hv5
          have HX4 := Lib.hid (HV4.out.belowMore hb5 hb5.size)
          have HB5 := Lib.hid (HB4.out.trans (hb5.mono HB4.out.size)); clear hb5
          go_wp2_with fail
          go_at_call 12
          refine (HT.out kk _ _ _ _ _ HKK.out HB5.out HV5.out HX4.out).mono ?_
          rintro e w6 ⟨rfl, hb6⟩
          have HB6 := Lib.hid (HB5.out.trans (hb6.mono HB5.out.size)); clear hb6
          go_wp2_with fail
          go_at_call 14
          refine (own_any _ _ _ _ _ (H0.out.below HB6.out).1 (Nat.le_trans H0.out.2.2.1 (by decide)) H0.out.2.1).mono ?_
          rintro e w7 ⟨⟨A7, c7, rfl, hv7⟩, hb7⟩
          have HV7 := Lib.hid hv7; clear hv7
          have HS7 := Lib.hid hb7.size
          have HL6 := Lib.hid HB6.out.size
          have HB7 := Lib.hid (HB6.out.trans (hb7.mono HB6.out.size)); clear hb7
          go_wp2_with (at_builtin; refine wpList_appAG (by first | rfl | simp [Region.wanted, yielded]) _ _ rfl w6.heap.size A7 n0 c7 l0 rfl HV7.out A0 n0 c0 l0 rfl (H0.out.below HB7.out).1 H0.out.2.1 HN0.out HS7.out ?hk3)
          case hk3 =>
            intro A8 c8 w8 hv8 hb8
            have HV8 : Hid (Sl w8 w8.heap.size encAcl 3 A8 (n0 + n0) (l0 ++ l0)) := Lib.hid (Sl.of_own (fun _ => rfl) (by rw [List.flatMap_append]; simpa using hv8) (by rw [List.length_append, H0.out.1.len]))
            have HB8 := Lib.hid (HB7.out.trans (hb8.mono HL6.out)); clear hv8 hb8
            go_wp2_with fail
            go_at_call 12
            refine (HD.out _ _ _ HB8.out HV8.out).mono ?_
            rintro e w9 ⟨rfl, hb9⟩
            have HB9 := Lib.hid (HB8.out.trans (hb9.mono HB8.out.size)); clear hb9
            go_wp2_with fail
            go_ret
            exact RetB.mk HB9.out (by first | rfl | (simp; done))
      | succ r =>
        have e : (((r + 1 : Nat) : Int) - 1) = (r : Int) := by omega
        rw [e]
        clear e
        have HV := Lib.hid hv; clear hv
        obtain ⟨b, off, rfl, hbl, x0, x1⟩ := SlId.at_ (H2.out.below HB.out).1 (show r < n2 by omega)
        have q3 : ((r : Nat) : Int) < (n2 : Int) := by omega
        generalize hxx : l2[r]! = x at *
        have HXX := Lib.hid hxx; clear hxx
        obtain ⟨s, t⟩ := x
        have HN := Lib.hid (show n2 - (r + 1) + 1 ≤ 16777216 from by omega)
        have HR : Hid (n2 - (r + 1) + 1 = n2 - r ∧ r ≤ n2 ∧ r < n2) := Lib.hid ⟨by omega, by omega, by omega⟩
        go_wp2_with (at_builtin; refine wpList_appI rfl _ _ rfl w2.heap.size A3 (n2 - (r + 1)) c3 (backT (fun i => l2[i]!) n2 (r + 1)) rfl (HV.out.alloc _) (some ⟨wr.heap.size, 0, none⟩) 1 1 [(s, t)] rfl (sl_id (by simp) (by simp)) (fun e => by cases e) HN.out (by have := HSZ.out; simp only [World.size_alloc]; omega) ?hk2)
        case hk2 =>
          intro A4 c4 w4 hv4 hb4
          have e1 : backT (fun i => l2[i]!) n2 r = backT (fun i => l2[i]!) n2 (r + 1) ++ [(s, t)] := by
            rw [backT_step _ n2 r HR.out.2.2]
            simp only [HXX.out]
          have HV4 : Hid (w4.ownsRow w2.heap.size 27 2 (.slice A4 (n2 - r) c4) (n2 - r) ((backT (fun i => l2[i]!) n2 r).flatMap encId)) := Lib.hid (by
            rw [e1, List.flatMap_append, List.flatMap_singleton]; rw [HR.out.1] at hv4; simpa using hv4)
          have HB4 := Lib.hid ((HBR.out.alloc HSZ.out _).trans hb4)
          rw [HR.out.1]
          clear hv4 hb4 e1
          go_wp2
          go_roundw
          case rel => exact ⟨r, by first | rfl | go_num, HR.out.2.1, ⟨A4, c4, rfl⟩, HV4.out, HB4.out⟩
          case measure => simp [intOf])
end Go.Proofs.YtmchfdmnngngiaaDoor

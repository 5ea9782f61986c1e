/- The walk of arborlaw06.AclBoth. -/
import Derived.Test.YtmchfdmnngngiaaDoorApp6
namespace Go.Proofs.YtmchfdmnngngiaaDoor
open Go.RowKit
theorem or_bits (p q : Int) : BitVec.ofInt 32 (bits .or .i32 p q) = BitVec.ofInt 32 p ||| BitVec.ofInt 32 q := by
  have key : ∀ v : BitVec 32, BitVec.ofInt 32 (IntKind.i32.wrap (v.toNat : Int)) = v := by
    intro v
    have hv : v.toNat < 4294967296 := v.isLt
    apply BitVec.eq_of_toNat_eq
    rw [IntKind.wrap_i32, BitVec.toNat_ofInt]
    omega
  exact key _
set_option maxRecDepth 100000 in
set_option maxHeartbeats 1000000 in
theorem aclBoth_any (A0 : Option Addr) (n0 c0 : Nat) (l0 : List AclV) (A1 : Option Addr) (n1 c1 : Nat) (l1 : List AclV) (p q : Int) (A2 : Option Addr) (n2 c2 : Nat) (l2 : List IdV) (w : World) (hE : Env w) (o0 : ArgA w A0 n0 c0 l0) (o1 : ArgA w A1 n1 c1 l1) (o2 : ArgI w A2 n2 c2 l2) :
    Calls Tryd.prog 4 #[.slice A0 n0 c0, .slice A1 n1 c1, .int .i32 p, .int .i32 q, .slice A2 n2 c2] w (RetB w true) := by
  have HE := Lib.hid hE; clear hE
  have H0 := Lib.hid o0; clear o0
  have H1 := Lib.hid o1; clear o1
  have H2 := Lib.hid o2; clear o2
  by_cases hz : n0 = 0 ∨ n1 = 0
  · have HZ := Lib.hid hz
    have hc : ((n0 : Int) == 0) = true ∨ (((n0 : Int) == 0) = false ∧ ((n1 : Int) == 0) = true) := by
      by_cases h : n0 = 0
      · exact .inl (by simp [h])
      · exact .inr ⟨by simp; omega, by simp; omega⟩
    clear hz
    rcases hc with hc | ⟨hc, hd⟩
    all_goals (
      go_enter Tryd.func4, Tryd.ntmps4
      go_wp2_with fail
      go_at_call 11
      refine (live_any _ HE.out).mono ?_
      rintro e w1 ⟨rfl, hb1⟩
      have HB1 := Lib.hid hb1; clear hb1
      go_wp2_with fail
      go_at_call 12
      refine (may_any none 0 0 [] _ _ _ _ _ _ (HE.out.later HB1.out) Sl.nil_ (by decide) (H2.out.below HB1.out).1 H2.out.n_le (fun j hj => absurd hj (by omega)) H2.out.small).mono ?_
      rintro e w3 ⟨rfl, hb3⟩
      have HB3 := Lib.hid (HB1.out.trans (hb3.mono HB1.out.size)); clear hb3
      go_wp2_with fail
      go_ret
      exact RetB.mk HB3.out rfl)
  · have hc : ((n0 : Int) == 0) = false := by simp; omega
    have hd : ((n1 : Int) == 0) = false := by simp; omega
    have HL0 := Lib.hid (show l0 ≠ [] from fun e => hz (.inl (by rw [← H0.out.1.len, e]; rfl)))
    have HL1 := Lib.hid (show l1 ≠ [] from fun e => hz (.inr (by rw [← H1.out.1.len, e]; rfl)))
    clear hz
    obtain ⟨m0, HM0⟩ : ∃ m, Hid (mayP l0 p l2 = m) := ⟨_, Lib.hid rfl⟩
    obtain ⟨m1, HM1⟩ : ∃ m, Hid (mayP l1 p l2 = m) := ⟨_, Lib.hid rfl⟩
    obtain ⟨m2, HM2⟩ : ∃ m, Hid (mayP l0 q l2 = m) := ⟨_, Lib.hid rfl⟩
    obtain ⟨m3, HM3⟩ : ∃ m, Hid (mayP (l0 ++ l1) p l2 = m) := ⟨_, Lib.hid rfl⟩
    have HM4 := Lib.hid (show m3 = (m0 || m1) from by rw [← HM3.out, ← HM0.out, ← HM1.out]; exact mayP_app l0 l1 p l2 HL0.out HL1.out)
    have cM0 : ∀ W, Below w.heap.size w W → Calls Tryd.prog 12 #[.slice A0 n0 c0, .int .i32 p, .slice A2 n2 c2] W (RetB W m0) := fun W hb => by
      rw [← HM0.out]; exact may_any _ _ _ _ _ _ _ _ _ _ (HE.out.later hb) (H0.out.below hb).1 H0.out.n_le (H2.out.below hb).1 H2.out.n_le H0.out.small H2.out.small
    have cM1 : ∀ W, Below w.heap.size w W → Calls Tryd.prog 12 #[.slice A1 n1 c1, .int .i32 p, .slice A2 n2 c2] W (RetB W m1) := fun W hb => by
      rw [← HM1.out]; exact may_any _ _ _ _ _ _ _ _ _ _ (HE.out.later hb) (H1.out.below hb).1 H1.out.n_le (H2.out.below hb).1 H2.out.n_le H1.out.small H2.out.small
    have cM2 : ∀ W, Below w.heap.size w W → Calls Tryd.prog 12 #[.slice A0 n0 c0, .int .i32 q, .slice A2 n2 c2] W (RetB W m2) := fun W hb => by
      rw [← HM2.out]; exact may_any _ _ _ _ _ _ _ _ _ _ (HE.out.later hb) (H0.out.below hb).1 H0.out.n_le (H2.out.below hb).1 H2.out.n_le H0.out.small H2.out.small
    have cO : ∀ W, Below w.heap.size w W → Calls Tryd.prog 12 #[.slice A0 n0 c0, .int .i32 (bits .or .i32 p q), .slice A2 n2 c2] W (RetB W (m0 || m2)) := fun W hb => by
      rw [← HM0.out, ← HM2.out, ← mayP_or l0 p q (bits .or .i32 p q) l2 (or_bits p q)]; exact may_any _ _ _ _ _ _ _ _ _ _ (HE.out.later hb) (H0.out.below hb).1 H0.out.n_le (H2.out.below hb).1 H2.out.n_le H0.out.small H2.out.small
    cases m0 <;> cases m1 <;> cases m2
    all_goals (
      obtain rfl := HM4.out
      clear HM4
      go_enter Tryd.func4, Tryd.ntmps4
      go_wp2_with fail
      go_at_call 11
      refine (live_any _ HE.out).mono ?_
      rintro e w1 ⟨rfl, hb1⟩
      have HB1 := Lib.hid hb1; clear hb1
      go_wp2_with fail
      go_at_call 14
      refine (own_any _ _ _ _ _ (H0.out.below HB1.out).1 (Nat.le_trans H0.out.2.2.1 (by decide)) H0.out.2.1).mono ?_
      rintro e w2 ⟨⟨A3, c3, rfl, hv2⟩, hb2⟩
      have HV2 := Lib.hid hv2; clear hv2
      have HS2 := Lib.hid hb2.size
      have HB2 := Lib.hid (HB1.out.trans (hb2.mono HB1.out.size)); clear hb2
      have HN := Lib.hid (show n0 + n1 ≤ 16777216 from by have := H0.out.2.2.1; have := H1.out.2.2.1; omega)
      go_wp2_with (at_builtin; refine wpList_appA rfl _ _ rfl w1.heap.size A3 n0 c3 l0 rfl HV2.out A1 n1 c1 l1 rfl (H1.out.below HB2.out).1 H1.out.2.1 HN.out HS2.out ?hk)
      case hk =>
       intro A4 c4 w3 hv3 hb3
       have HV3 := Lib.hid (Sl.of_own (zs := l0 ++ l1) (enc := encAcl) (k := 3) (fun _ => rfl) (by rw [List.flatMap_append]; exact hv3) (by rw [List.length_append, H0.out.1.len, H1.out.1.len] : (l0 ++ l1).length = n0 + n1)); clear hv3
       have HB3 := Lib.hid (HB2.out.trans (hb3.mono (HB1.out.size))); clear hb3
       have HNN := Lib.hid (show n0 + n1 ≤ 281474976710656 from by have := HN.out; omega)
       have HSM := Lib.hid (small_app H0.out.1.len H0.out.small H1.out.small)
       go_wp2_with fail
       go_at_call 12
       refine (may_any A4 (n0 + n1) c4 (l0 ++ l1) _ _ _ _ _ _ (HE.out.later HB3.out) HV3.out HNN.out (H2.out.below HB3.out).1 H2.out.n_le HSM.out H2.out.small).mono ?_
       rw [HM3.out]
       rintro e w4 ⟨rfl, hb4⟩
       have HB4 := Lib.hid (HB3.out.trans (hb4.mono HB3.out.size)); clear hb4
       go_wp2_with fail
       rename Hid (Below _ _ _) => HB
       repeat (go_at_call 12; (first | with_reducible refine (cM0 _ HB.out).mono ?_ | with_reducible refine (cM1 _ HB.out).mono ?_ | with_reducible refine (cM2 _ HB.out).mono ?_ | with_reducible refine (cO _ HB.out).mono ?_); rintro e wn ⟨rfl, hb⟩; have HX := Lib.hid (HB.out.trans (hb.mono HB.out.size)); clear HB hb; rename Hid (Below _ _ _) => HB; go_wp2_with fail)
       go_ret
       exact RetB.mk HB.out (by first | rfl | simp))
end Go.Proofs.YtmchfdmnngngiaaDoor

/- The walk of arborlaw06.AclMays. -/
import Derived.Test.YtmchfdmnngngiaaDoorLaw6
import Derived.Test.YtmchfdmnngngiaaDoorAclLive
namespace Go.Proofs.YtmchfdmnngngiaaDoor
open Go.RowKit
set_option maxRecDepth 100000 in
theorem aclMays_any (A0 : Option Addr) (n0 c0 : Nat) (l0 : List AclV) (p : Int) (A2 : Option Addr) (n2 c2 : Nat) (l2 : List IdV) (w : World) (hE : Env w) (o0 : ArgA w A0 n0 c0 l0) (o2 : ArgI w A2 n2 c2 l2) :
    Calls Tryd.prog 6 #[.slice A0 n0 c0, .int .i32 p, .slice A2 n2 c2] w (RetB w true) := by
  have HE := Lib.hid hE; clear hE
  have H0 := Lib.hid o0; clear o0
  have H2 := Lib.hid o2; clear o2
  go_enter Tryd.func6, Tryd.ntmps6
  go_wp2_with fail
  go_at_call 14
  refine (own_any _ _ _ _ _ H0.out.1 (Nat.le_trans H0.out.2.2.1 (by decide)) H0.out.2.1).mono ?_
  rintro e w1 ⟨⟨A1, c1, rfl, hv1⟩, hb1⟩
  have G0 := Lib.hid (H0.out.own hv1); clear hv1
  have HB1 := Lib.hid hb1; clear hb1
  go_wp2_with fail
  go_at_call 15
  refine (ownIds_any _ _ _ _ _ (H2.out.below HB1.out).1 (Nat.le_trans H2.out.2.2.1 (by decide)) H2.out.2.1).mono ?_
  rintro e w2 ⟨⟨A3, c3, rfl, hv2⟩, hb2⟩
  have G2 := Lib.hid ((H2.out.below HB1.out).own hv2); clear hv2
  have F0 := Lib.hid (G0.out.below hb2)
  have HB2 := Lib.hid (HB1.out.trans (hb2.mono HB1.out.size)); clear hb2
  go_wp2_with fail
  go_at_call 12
  refine (may_any _ _ _ _ _ _ _ _ _ _ (HE.out.later HB2.out) F0.out.1 F0.out.n_le G2.out.1 G2.out.n_le F0.out.small G2.out.small).mono ?_
  rintro e w3 ⟨rfl, hb3⟩
  have HB3 := Lib.hid (HB2.out.trans (hb3.mono HB2.out.size)); clear hb3
  go_wp2_with fail
  go_at_call 21
  refine (refMay_any _ _ _ _ _ _ _ _ _ _ (H0.out.below HB3.out).1 H0.out.n_le (H2.out.below HB3.out).1 H2.out.n_le H0.out.small H2.out.small).mono ?_
  rintro e w4 ⟨rfl, hb4⟩
  have HB4 := Lib.hid (HB3.out.trans (hb4.mono HB3.out.size)); clear hb4
  go_wp2_with fail
  go_at_call 11
  refine (live_any _ (HE.out.later HB4.out)).mono ?_
  rintro e w5 ⟨rfl, hb5⟩
  have HB5 := Lib.hid (HB4.out.trans (hb5.mono HB4.out.size)); clear hb5
  go_wp2_with fail
  go_ret
  exact RetB.mk HB5.out (by first | rfl | (simp; done))
end Go.Proofs.YtmchfdmnngngiaaDoor

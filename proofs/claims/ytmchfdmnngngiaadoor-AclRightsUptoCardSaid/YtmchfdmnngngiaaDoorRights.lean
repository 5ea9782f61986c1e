/- The walk of arborlaw06.AclRights. -/
import Derived.Test.YtmchfdmnngngiaaDoorReg6
namespace Go.Proofs.YtmchfdmnngngiaaDoor
open Go.RowKit
set_option maxRecDepth 100000 in
set_option maxHeartbeats 4000000 in
theorem aclRights_any (s0 t0 : ByteArray) (p1 : Int) (s1 t1 : ByteArray) (A2 : Option Addr) (n2 c2 : Nat) (l2 : List AclV) (A3 : Option Addr) (n3 c3 : Nat) (l3 : List AclV) (w : World) (hE : Env w)
    (o0 : s0.size ≤ 1048576 ∧ t0.size ≤ 1048576) (o1 : s1.size ≤ 1048576 ∧ t1.size ≤ 1048576) (o2 : ArgA w A2 n2 c2 l2) (o3 : ArgA w A3 n3 c3 l3) :
    Calls Tryd.prog 10 #[.agg #[.string s0, .string t0], .agg #[.int .i32 p1, .string s1, .string t1], .slice A2 n2 c2, .slice A3 n3 c3] w (RetB w true) := by
  have cI : ∀ W, Env W → Calls Tryd.prog 26 #[.agg #[.string s0, .string t0]] W (RetB W (identP (s0, t0))) := fun W hW => identity_any s0 t0 (by omega) (by omega) W hW
  have cJ : ∀ W, Calls Tryd.prog 23 #[.agg #[.string s0, .string t0]] W (RetB W (identP (s0, t0))) := fun W => refIdent_any s0 t0 (by omega) W
  have cR : ∀ W, Env W → Calls Tryd.prog 22 #[.agg #[.int .i32 p1, .string s1, .string t1]] W (RetB W (rightP (p1, s1, t1))) := fun W hW => right_any p1 s1 t1 (by omega) (by omega) W hW
  have cS : ∀ W, Calls Tryd.prog 27 #[.agg #[.int .i32 p1, .string s1, .string t1]] W (RetB W (rightP (p1, s1, t1))) := fun W => refRight_any p1 s1 t1 (by omega) W
  generalize identP (s0, t0) = b0 at *
  generalize rightP (p1, s1, t1) = b1 at *
  obtain ⟨b2, HB2⟩ : ∃ b, Hid (decide (l2 = l3) = b) := ⟨_, Lib.hid rfl⟩
  have hb0 : Below w.heap.size w ((w.alloc (.cells #[.string s0, .string t0] 27)).alloc (.cells #[.int .i32 p1, .string s1, .string t1] 42)) := ((Below.refl _ w).alloc (Nat.le_refl _) _).alloc (by simp) _
  have HE := Lib.hid (hE.later hb0); clear hE
  have H2 := Lib.hid (o2.below hb0); clear o2
  have H3 := Lib.hid (o3.below hb0); clear o3
  clear o0 o1
  have M1 : True := trivial
  have M2 : True := trivial
  have M3 : True := trivial
  have M4 : True := trivial
  have M5 : True := trivial
  go_enter Tryd.func10, Tryd.ntmps10
  go_upto_region 1 with fail
  have hS : Below ((w.alloc (.cells #[.string s0, .string t0] 27)).alloc (.cells #[.int .i32 p1, .string s1, .string t1] 42)).heap.size ((w.alloc (.cells #[.string s0, .string t0] 27)).alloc (.cells #[.int .i32 p1, .string s1, .string t1] 42)) ((w.alloc (.cells #[.string s0, .string t0] 27)).alloc (.cells #[.int .i32 p1, .string s1, .string t1] 42)) ∧
    ((w.alloc (.cells #[.string s0, .string t0] 27)).alloc (.cells #[.int .i32 p1, .string s1, .string t1] 42)).cell? ⟨w.heap.size, 0, none⟩ = some (.string s0) ∧
    ((w.alloc (.cells #[.string s0, .string t0] 27)).alloc (.cells #[.int .i32 p1, .string s1, .string t1] 42)).cell? ⟨w.heap.size, 1, none⟩ = some (.string t0) ∧
    ((w.alloc (.cells #[.string s0, .string t0] 27)).alloc (.cells #[.int .i32 p1, .string s1, .string t1] 42)).cell? ⟨w.heap.size + 1, 0, none⟩ = some (.int .i32 p1) ∧
    ((w.alloc (.cells #[.string s0, .string t0] 27)).alloc (.cells #[.int .i32 p1, .string s1, .string t1] 42)).cell? ⟨w.heap.size + 1, 1, none⟩ = some (.string s1) ∧
    ((w.alloc (.cells #[.string s0, .string t0] 27)).alloc (.cells #[.int .i32 p1, .string s1, .string t1] 42)).cell? ⟨w.heap.size + 1, 2, none⟩ = some (.string t1) := by
    refine ⟨Below.refl _ _, ?_, ?_, ?_, ?_, ?_⟩ <;> simp
  generalize ((w.alloc (.cells #[.string s0, .string t0] 27)).alloc (.cells #[.int .i32 p1, .string s1, .string t1] 42)) = W at *
  have HW := Lib.hid hb0; clear hb0
  go_region_held3 (fun w' => Below W.heap.size W w' ∧ w'.cell? ⟨w.heap.size, 0, none⟩ = some (.string s0) ∧ w'.cell? ⟨w.heap.size, 1, none⟩ = some (.string t0) ∧ w'.cell? ⟨w.heap.size + 1, 0, none⟩ = some (.int .i32 p1) ∧ w'.cell? ⟨w.heap.size + 1, 1, none⟩ = some (.string s1) ∧ w'.cell? ⟨w.heap.size + 1, 2, none⟩ = some (.string t1))
    ((first | exact sKeep5 (by assumption) (by assumption) | exact sKeep5 (drew_self _) (by assumption)))
    (first
      | (go_at_call 26; refine (cI _ (HE.out.later (sBelow (by assumption)))).mono ?_; rintro e w1 ⟨rfl, hb⟩)
      | (go_at_call 23; refine (cJ _).mono ?_; rintro e w1 ⟨rfl, hb⟩)
      | (go_at_call 22; refine (cR _ (HE.out.later (sBelow (by assumption)))).mono ?_; rintro e w1 ⟨rfl, hb⟩)
      | (go_at_call 27; refine (cS _).mono ?_; rintro e w1 ⟨rfl, hb⟩)
      | (go_at_call 14; clear M1; have h2 := H2.out.below (sBelow (by assumption)); refine (own_any A2 n2 c2 l2 _ h2.1 (Nat.le_trans h2.2.2.1 (by decide)) h2.2.1).mono ?_; rintro e w5 ⟨⟨A5, c5, rfl, hv5⟩, hb⟩; have G5 := Lib.hid (h2.own hv5); clear hv5 h2)
      | (go_at_call 14; clear M2; have h2 := H3.out.below (sBelow (by assumption)); refine (own_any A3 n3 c3 l3 _ h2.1 (Nat.le_trans h2.2.2.1 (by decide)) h2.2.1).mono ?_; rintro e w6 ⟨⟨A6, c6, rfl, hv6⟩, hb⟩; have G6 := Lib.hid (h2.own hv6); have F5 := Lib.hid (G5.out.below hb); clear hv6 h2)
      | (go_at_call 14; clear M3; have h2 := H2.out.below (sBelow (by assumption)); refine (own_any A2 n2 c2 l2 _ h2.1 (Nat.le_trans h2.2.2.1 (by decide)) h2.2.1).mono ?_; rintro e w9 ⟨⟨A9, c9, rfl, hv9⟩, hb⟩; have G9 := Lib.hid (h2.own hv9); clear hv9 h2)
      | (go_at_call 14; clear M4; have h2 := H2.out.below (sBelow (by assumption)); refine (own_any A2 n2 c2 l2 _ h2.1 (Nat.le_trans h2.2.2.1 (by decide)) h2.2.1).mono ?_; rintro e w10 ⟨⟨A10, c10, rfl, hv10⟩, hb⟩; have G10 := Lib.hid (h2.own hv10); have F9 := Lib.hid (G9.out.below hb); clear hv10 h2)
      | (go_at_call 28; clear M5; refine ((same_any _ _ _ _ _ _ _ _ _ _ F5.out.1 G6.out.1 F5.out.n_le G6.out.n_le).mono fun _ _ h => QuietB.below h).mono ?_; rw [HB2.out]; rintro e w7 ⟨rfl, hb⟩)
      | (go_at_call 28; refine ((same_any _ _ _ _ _ _ _ _ _ _ F9.out.1 G10.out.1 F9.out.n_le G10.out.n_le).mono fun _ _ h => QuietB.below h).mono ?_; rw [decide_eq_true rfl]; rintro e w7 ⟨rfl, hb⟩)
      | (go_at_call 19; have h2 := H2.out.below (sBelow (by assumption)); have h3 := H3.out.below (sBelow (by assumption)); refine ((refSame_any _ _ _ _ _ _ _ _ _ _ h2.1 h3.1 h2.n_le h3.n_le).mono fun _ _ h => QuietB.below h).mono ?_; clear h2 h3; rw [HB2.out]; rintro e w8 ⟨rfl, hb⟩)
      | (go_at_call 11; refine (live_any _ (HE.out.later (sBelow (by assumption)))).mono ?_; rintro e w12 ⟨rfl, hb⟩))
  go_wp2_with fail
  go_ret
  exact RetB.mk (HW.out.trans ((sBelow (by assumption)).mono HW.out.size)) (by first | rfl | (simp; done))
end Go.Proofs.YtmchfdmnngngiaaDoor

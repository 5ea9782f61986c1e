/- Cases of the walk of delta.plain, by the first field that differs (2). No condition. -/
import Derived.Test.YthpjneobmmpbnaaGreatDoorGPlnD
namespace Go.Proofs.YthpjneobmmpbnaaGreatDoor
open Go.RowKit Go.MapKept
set_option maxRecDepth 100000 in
set_option maxHeartbeats 4000000 in
theorem plain_4 (h k : TxH) (bi bp : Bool) (w : World) (HC : Hid (PlC ((w.alloc (objTx h)).alloc (objTx k)) h k true true bi bp)) (e0 : h.n.ty = k.n.ty) (e1 : h.n.path = k.n.path) (e4 : ¬ h.n.ow = k.n.ow) :
    Calls Tryz.prog 134 #[txV h, txV k] w (PlR w (plB h k true true bi bp)) := by
  have HR := Lib.hid (show plB h k true true bi bp = false by unfold plB; rw [decide_eq_true e0, decide_eq_true e1, decide_eq_false e4]; simp)
  have f0 : (h.n.ty == k.n.ty) = true := int_same _ _ e0
  have f1 : (h.n.path.toList == k.n.path.toList) = true := str_same h.n.path k.n.path e1
  have f4 : (h.n.ow == k.n.ow) = false := int_other _ _ e4
  clear e0 e1 e4
  unfold txV
  go_enter Tryz.func134, Tryz.ntmps134
  go_wp2_with (first | (go_at_call 183; refine (HC.out.d _ (by exact rfl)).mono ?_; rintro e w1 ⟨rfl, qd, rfl⟩) | (go_at_call 184; refine (HC.out.a _ (by exact rfl)).mono ?_; rintro e w1 ⟨rfl, qa, rfl⟩) | fail)
  go_ret
  exact PlR.mk (by first | exact two_below w _ _ | exact drewN_below (two_below w _ _) _ | exact drewN_below (drewN_below (two_below w _ _) _) _ | exact drewN_below (drewN_below (drewN_below (two_below w _ _) _) _) _ | exact drewN_below (drewN_below (drewN_below (drewN_below (two_below w _ _) _) _) _) _) HR.out.symm
set_option maxRecDepth 100000 in
set_option maxHeartbeats 4000000 in
theorem plain_5 (h k : TxH) (bi bp : Bool) (w : World) (HC : Hid (PlC ((w.alloc (objTx h)).alloc (objTx k)) h k true true bi bp)) (e0 : h.n.ty = k.n.ty) (e1 : h.n.path = k.n.path) (e4 : h.n.ow = k.n.ow) (e5 : ¬ h.n.ve = k.n.ve) :
    Calls Tryz.prog 134 #[txV h, txV k] w (PlR w (plB h k true true bi bp)) := by
  have HR := Lib.hid (show plB h k true true bi bp = false by unfold plB; rw [decide_eq_true e0, decide_eq_true e1, decide_eq_true e4, decide_eq_false e5]; simp)
  have f0 : (h.n.ty == k.n.ty) = true := int_same _ _ e0
  have f1 : (h.n.path.toList == k.n.path.toList) = true := str_same h.n.path k.n.path e1
  have f4 : (h.n.ow == k.n.ow) = true := int_same _ _ e4
  have f5 : (h.n.ve == k.n.ve) = false := int_other _ _ e5
  clear e0 e1 e4 e5
  unfold txV
  go_enter Tryz.func134, Tryz.ntmps134
  go_wp2_with (first | (go_at_call 183; refine (HC.out.d _ (by exact rfl)).mono ?_; rintro e w1 ⟨rfl, qd, rfl⟩) | (go_at_call 184; refine (HC.out.a _ (by exact rfl)).mono ?_; rintro e w1 ⟨rfl, qa, rfl⟩) | fail)
  go_ret
  exact PlR.mk (by first | exact two_below w _ _ | exact drewN_below (two_below w _ _) _ | exact drewN_below (drewN_below (two_below w _ _) _) _ | exact drewN_below (drewN_below (drewN_below (two_below w _ _) _) _) _ | exact drewN_below (drewN_below (drewN_below (drewN_below (two_below w _ _) _) _) _) _) HR.out.symm
set_option maxRecDepth 100000 in
set_option maxHeartbeats 4000000 in
theorem plain_6 (h k : TxH) (bi bp : Bool) (w : World) (HC : Hid (PlC ((w.alloc (objTx h)).alloc (objTx k)) h k true true bi bp)) (e0 : h.n.ty = k.n.ty) (e1 : h.n.path = k.n.path) (e4 : h.n.ow = k.n.ow) (e5 : h.n.ve = k.n.ve) (e6 : ¬ h.n.cr = k.n.cr) :
    Calls Tryz.prog 134 #[txV h, txV k] w (PlR w (plB h k true true bi bp)) := by
  have HR := Lib.hid (show plB h k true true bi bp = false by unfold plB; rw [decide_eq_true e0, decide_eq_true e1, decide_eq_true e4, decide_eq_true e5, decide_eq_false e6]; simp)
  have f0 : (h.n.ty == k.n.ty) = true := int_same _ _ e0
  have f1 : (h.n.path.toList == k.n.path.toList) = true := str_same h.n.path k.n.path e1
  have f4 : (h.n.ow == k.n.ow) = true := int_same _ _ e4
  have f5 : (h.n.ve == k.n.ve) = true := int_same _ _ e5
  have f6 : (h.n.cr == k.n.cr) = false := int_other _ _ e6
  clear e0 e1 e4 e5 e6
  unfold txV
  go_enter Tryz.func134, Tryz.ntmps134
  go_wp2_with (first | (go_at_call 183; refine (HC.out.d _ (by exact rfl)).mono ?_; rintro e w1 ⟨rfl, qd, rfl⟩) | (go_at_call 184; refine (HC.out.a _ (by exact rfl)).mono ?_; rintro e w1 ⟨rfl, qa, rfl⟩) | fail)
  go_ret
  exact PlR.mk (by first | exact two_below w _ _ | exact drewN_below (two_below w _ _) _ | exact drewN_below (drewN_below (two_below w _ _) _) _ | exact drewN_below (drewN_below (drewN_below (two_below w _ _) _) _) _ | exact drewN_below (drewN_below (drewN_below (drewN_below (two_below w _ _) _) _) _) _) HR.out.symm
set_option maxRecDepth 100000 in
set_option maxHeartbeats 4000000 in
theorem plain_7 (h k : TxH) (bi bp : Bool) (w : World) (HC : Hid (PlC ((w.alloc (objTx h)).alloc (objTx k)) h k true true bi bp)) (e0 : h.n.ty = k.n.ty) (e1 : h.n.path = k.n.path) (e4 : h.n.ow = k.n.ow) (e5 : h.n.ve = k.n.ve) (e6 : h.n.cr = k.n.cr) (e7 : ¬ (h.n.qh, h.n.qc, h.n.qb) = (k.n.qh, k.n.qc, k.n.qb)) :
    Calls Tryz.prog 134 #[txV h, txV k] w (PlR w (plB h k true true bi bp)) := by
  have HR := Lib.hid (show plB h k true true bi bp = false by unfold plB; rw [decide_eq_true e0, decide_eq_true e1, decide_eq_true e4, decide_eq_true e5, decide_eq_true e6, decide_eq_false e7]; simp)
  have f0 : (h.n.ty == k.n.ty) = true := int_same _ _ e0
  have f1 : (h.n.path.toList == k.n.path.toList) = true := str_same h.n.path k.n.path e1
  have f4 : (h.n.ow == k.n.ow) = true := int_same _ _ e4
  have f5 : (h.n.ve == k.n.ve) = true := int_same _ _ e5
  have f6 : (h.n.cr == k.n.cr) = true := int_same _ _ e6
  have f7 := fun w : World => eqQ w h.n.qh k.n.qh h.n.qc h.n.qb k.n.qc k.n.qb
  have f7b := Lib.hid e7
  rw [decide_eq_false e7] at f7
  clear e0 e1 e4 e5 e6 e7
  unfold txV
  go_enter Tryz.func134, Tryz.ntmps134
  go_wp2_with (first | (go_at_call 183; refine (HC.out.d _ (by exact rfl)).mono ?_; rintro e w1 ⟨rfl, qd, rfl⟩) | (go_at_call 184; refine (HC.out.a _ (by exact rfl)).mono ?_; rintro e w1 ⟨rfl, qa, rfl⟩) | fail)
  go_ret
  exact PlR.mk (by first | exact two_below w _ _ | exact drewN_below (two_below w _ _) _ | exact drewN_below (drewN_below (two_below w _ _) _) _ | exact drewN_below (drewN_below (drewN_below (two_below w _ _) _) _) _ | exact drewN_below (drewN_below (drewN_below (drewN_below (two_below w _ _) _) _) _) _) HR.out.symm
end Go.Proofs.YthpjneobmmpbnaaGreatDoor

/- Cases of the walk of delta.plain, by the first field that differs (1). No condition. -/
import Derived.Test.YthpjneobmmpbnaaGreatDoorGPlnD
namespace Go.Proofs.YthpjneobmmpbnaaGreatDoor
open Go.RowKit Go.MapKept
set_option maxRecDepth 100000 in
set_option maxHeartbeats 4000000 in
theorem plain_0 (h k : TxH) (bd ba bi bp : Bool) (w : World) (_HC : Hid (PlC ((w.alloc (objTx h)).alloc (objTx k)) h k bd ba bi bp)) (e0 : ¬ h.n.ty = k.n.ty) :
    Calls Tryz.prog 134 #[txV h, txV k] w (PlR w (plB h k bd ba bi bp)) := by
  have HR := Lib.hid (show plB h k bd ba bi bp = false by unfold plB; rw [decide_eq_false e0]; simp)
  have f0 : (h.n.ty == k.n.ty) = false := int_other _ _ e0
  clear e0
  unfold txV
  go_enter Tryz.func134, Tryz.ntmps134
  go_wp2_with fail
  go_ret
  exact PlR.mk (by first | exact two_below w _ _ | exact drewN_below (two_below w _ _) _ | exact drewN_below (drewN_below (two_below w _ _) _) _ | exact drewN_below (drewN_below (drewN_below (two_below w _ _) _) _) _ | exact drewN_below (drewN_below (drewN_below (drewN_below (two_below w _ _) _) _) _) _) HR.out.symm
set_option maxRecDepth 100000 in
set_option maxHeartbeats 4000000 in
theorem plain_1 (h k : TxH) (bd ba bi bp : Bool) (w : World) (_HC : Hid (PlC ((w.alloc (objTx h)).alloc (objTx k)) h k bd ba bi bp)) (e0 : h.n.ty = k.n.ty) (e1 : ¬ h.n.path = k.n.path) :
    Calls Tryz.prog 134 #[txV h, txV k] w (PlR w (plB h k bd ba bi bp)) := by
  have HR := Lib.hid (show plB h k bd ba bi bp = false by unfold plB; rw [decide_eq_true e0, decide_eq_false e1]; simp)
  have f0 : (h.n.ty == k.n.ty) = true := int_same _ _ e0
  have f1 : (h.n.path.toList == k.n.path.toList) = false := ne_str h.n.path k.n.path e1
  clear e0 e1
  unfold txV
  go_enter Tryz.func134, Tryz.ntmps134
  go_wp2_with fail
  go_ret
  exact PlR.mk (by first | exact two_below w _ _ | exact drewN_below (two_below w _ _) _ | exact drewN_below (drewN_below (two_below w _ _) _) _ | exact drewN_below (drewN_below (drewN_below (two_below w _ _) _) _) _ | exact drewN_below (drewN_below (drewN_below (drewN_below (two_below w _ _) _) _) _) _) HR.out.symm
set_option maxRecDepth 100000 in
set_option maxHeartbeats 4000000 in
theorem plain_2 (h k : TxH) (ba bi bp : Bool) (w : World) (HC : Hid (PlC ((w.alloc (objTx h)).alloc (objTx k)) h k false ba bi bp)) (e0 : h.n.ty = k.n.ty) (e1 : h.n.path = k.n.path) :
    Calls Tryz.prog 134 #[txV h, txV k] w (PlR w (plB h k false ba bi bp)) := by
  have HR := Lib.hid (show plB h k false ba bi bp = false by unfold plB; rw [decide_eq_true e0, decide_eq_true e1]; simp)
  have f0 : (h.n.ty == k.n.ty) = true := int_same _ _ e0
  have f1 : (h.n.path.toList == k.n.path.toList) = true := str_same h.n.path k.n.path e1
  clear e0 e1
  unfold txV
  go_enter Tryz.func134, Tryz.ntmps134
  go_wp2_with (first | (go_at_call 183; refine (HC.out.d _ (by exact rfl)).mono ?_; rintro e w1 ⟨rfl, qd, rfl⟩) | fail)
  go_ret
  exact PlR.mk (by first | exact two_below w _ _ | exact drewN_below (two_below w _ _) _ | exact drewN_below (drewN_below (two_below w _ _) _) _ | exact drewN_below (drewN_below (drewN_below (two_below w _ _) _) _) _ | exact drewN_below (drewN_below (drewN_below (drewN_below (two_below w _ _) _) _) _) _) HR.out.symm
set_option maxRecDepth 100000 in
set_option maxHeartbeats 4000000 in
theorem plain_3 (h k : TxH) (bi bp : Bool) (w : World) (HC : Hid (PlC ((w.alloc (objTx h)).alloc (objTx k)) h k true false bi bp)) (e0 : h.n.ty = k.n.ty) (e1 : h.n.path = k.n.path) :
    Calls Tryz.prog 134 #[txV h, txV k] w (PlR w (plB h k true false bi bp)) := by
  have HR := Lib.hid (show plB h k true false bi bp = false by unfold plB; rw [decide_eq_true e0, decide_eq_true e1]; simp)
  have f0 : (h.n.ty == k.n.ty) = true := int_same _ _ e0
  have f1 : (h.n.path.toList == k.n.path.toList) = true := str_same h.n.path k.n.path e1
  clear e0 e1
  unfold txV
  go_enter Tryz.func134, Tryz.ntmps134
  go_wp2_with (first | (go_at_call 183; refine (HC.out.d _ (by exact rfl)).mono ?_; rintro e w1 ⟨rfl, qd, rfl⟩) | (go_at_call 184; refine (HC.out.a _ (by exact rfl)).mono ?_; rintro e w1 ⟨rfl, qa, rfl⟩) | fail)
  go_ret
  exact PlR.mk (by first | exact two_below w _ _ | exact drewN_below (two_below w _ _) _ | exact drewN_below (drewN_below (two_below w _ _) _) _ | exact drewN_below (drewN_below (drewN_below (two_below w _ _) _) _) _ | exact drewN_below (drewN_below (drewN_below (drewN_below (two_below w _ _) _) _) _) _) HR.out.symm
end Go.Proofs.YthpjneobmmpbnaaGreatDoor

/- Cases of the walk of delta.plain, by the first field that differs (1). No condition. -/
import Derived.Test.YtbpmmmnphpkdjaaGreatDoorWPlnD
namespace Go.Proofs.YtbpmmmnphpkdjaaGreatDoor
set_option linter.unusedSimpArgs false
set_option maxRecDepth 100000
set_option maxHeartbeats 20000000
open Go.RowKit Go.MapKept
theorem qnw (h k : TxH) (bd ba bi bp : Bool) (w : World) (_HC : Hid (PlC ((w.alloc (qba h)).alloc (qba k)) h k bd ba bi bp)) (e0 : ¬ h.n.ty = k.n.ty) :
  Calls Tryz.prog 178 #[txV h, txV k] w (PlR w (plB h k bd ba bi bp)) := by
 have HR := Lib.hid (show plB h k bd ba bi bp = false by unfold plB; rw [decide_eq_false e0]; simp)
 have f0 : (h.n.ty == k.n.ty) = false := qcq _ _ e0
 clear e0
 unfold txV
 go_enter Tryz.func178, Tryz.ntmps178
 go_wp2_with fail
 go_ret
 exact PlR.mk (by first | exact qak w _ _ | exact qac (qak w _ _) _ | exact qac (qac (qak w _ _) _) _ | exact qac (qac (qac (qak w _ _) _) _) _ | exact qac (qac (qac (qac (qak w _ _) _) _) _) _) HR.out.symm
theorem qnP (h k : TxH) (bd ba bi bp : Bool) (w : World) (_HC : Hid (PlC ((w.alloc (qba h)).alloc (qba k)) h k bd ba bi bp)) (e0 : h.n.ty = k.n.ty) (e1 : ¬ h.n.path = k.n.path) :
  Calls Tryz.prog 178 #[txV h, txV k] w (PlR w (plB h k bd ba bi bp)) := by
 have HR := Lib.hid (show plB h k bd ba bi bp = false by unfold plB; rw [decide_eq_true e0, decide_eq_false e1]; simp)
 have f0 : (h.n.ty == k.n.ty) = true := qaA _ _ e0
 have f1 : (h.n.path.toList == k.n.path.toList) = false := qkZ h.n.path k.n.path e1
 clear e0 e1
 unfold txV
 go_enter Tryz.func178, Tryz.ntmps178
 go_wp2_with fail
 go_ret
 exact PlR.mk (by first | exact qak w _ _ | exact qac (qak w _ _) _ | exact qac (qac (qak w _ _) _) _ | exact qac (qac (qac (qak w _ _) _) _) _ | exact qac (qac (qac (qac (qak w _ _) _) _) _) _) HR.out.symm
theorem qnH (h k : TxH) (ba bi bp : Bool) (w : World) (HC : Hid (PlC ((w.alloc (qba h)).alloc (qba k)) h k false ba bi bp)) (e0 : h.n.ty = k.n.ty) (e1 : h.n.path = k.n.path) :
  Calls Tryz.prog 178 #[txV h, txV k] w (PlR w (plB h k false ba bi bp)) := by
 have HR := Lib.hid (show plB h k false ba bi bp = false by unfold plB; rw [decide_eq_true e0, decide_eq_true e1]; simp)
 have f0 : (h.n.ty == k.n.ty) = true := qaA _ _ e0
 have f1 : (h.n.path.toList == k.n.path.toList) = true := qbF h.n.path k.n.path e1
 clear e0 e1
 unfold txV
 go_enter Tryz.func178, Tryz.ntmps178
 go_wp2_with (first | (go_at_call 209; refine (HC.out.d _ (by exact rfl)).mono ?_; rintro e w1 ⟨rfl, qd, rfl⟩) | fail)
 go_ret
 exact PlR.mk (by first | exact qak w _ _ | exact qac (qak w _ _) _ | exact qac (qac (qak w _ _) _) _ | exact qac (qac (qac (qak w _ _) _) _) _ | exact qac (qac (qac (qac (qak w _ _) _) _) _) _) HR.out.symm
theorem qof (h k : TxH) (bi bp : Bool) (w : World) (HC : Hid (PlC ((w.alloc (qba h)).alloc (qba k)) h k true false bi bp)) (e0 : h.n.ty = k.n.ty) (e1 : h.n.path = k.n.path) :
  Calls Tryz.prog 178 #[txV h, txV k] w (PlR w (plB h k true false bi bp)) := by
 have HR := Lib.hid (show plB h k true false bi bp = false by unfold plB; rw [decide_eq_true e0, decide_eq_true e1]; simp)
 have f0 : (h.n.ty == k.n.ty) = true := qaA _ _ e0
 have f1 : (h.n.path.toList == k.n.path.toList) = true := qbF h.n.path k.n.path e1
 clear e0 e1
 unfold txV
 go_enter Tryz.func178, Tryz.ntmps178
 go_wp2_with (first | (go_at_call 209; refine (HC.out.d _ (by exact rfl)).mono ?_; rintro e w1 ⟨rfl, qd, rfl⟩) | (go_at_call 210; refine (HC.out.a _ (by exact rfl)).mono ?_; rintro e w1 ⟨rfl, qa, rfl⟩) | fail)
 go_ret
 exact PlR.mk (by first | exact qak w _ _ | exact qac (qak w _ _) _ | exact qac (qac (qak w _ _) _) _ | exact qac (qac (qac (qak w _ _) _) _) _ | exact qac (qac (qac (qac (qak w _ _) _) _) _) _) HR.out.symm
end Go.Proofs.YtbpmmmnphpkdjaaGreatDoor

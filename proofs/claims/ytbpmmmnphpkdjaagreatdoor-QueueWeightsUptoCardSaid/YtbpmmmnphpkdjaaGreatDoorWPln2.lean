/- Cases of the walk of delta.plain, by the first field that differs (2). No condition. -/
import Derived.Test.YtbpmmmnphpkdjaaGreatDoorWPlnD
namespace Go.Proofs.YtbpmmmnphpkdjaaGreatDoor
set_option linter.unusedSimpArgs false
set_option maxRecDepth 100000
set_option maxHeartbeats 20000000
open Go.RowKit Go.MapKept
theorem qnq (h k : TxH) (bi bp : Bool) (w : World) (HC : Hid (PlC ((w.alloc (qba h)).alloc (qba k)) h k true true bi bp)) (e0 : h.n.ty = k.n.ty) (e1 : h.n.path = k.n.path) (e4 : ¬ h.n.ow = k.n.ow) :
  Calls Tryz.prog 178 #[txV h, txV k] w (PlR w (plB h k true true bi bp)) := by
 have HR := Lib.hid (show plB h k true true bi bp = false by unfold plB; rw [decide_eq_true e0, decide_eq_true e1, decide_eq_false e4]; simp)
 have f0 : (h.n.ty == k.n.ty) = true := qaA _ _ e0
 have f1 : (h.n.path.toList == k.n.path.toList) = true := qbF h.n.path k.n.path e1
 have f4 : (h.n.ow == k.n.ow) = false := qcq _ _ e4
 clear e0 e1 e4
 unfold txV
 go_enter Tryz.func178, Tryz.ntmps178
 go_wp2_with (first | (go_at_call 209; refine (HC.out.d _ (by exact rfl)).mono ?_; rintro e w1 ⟨rfl, qd, rfl⟩) | (go_at_call 210; refine (HC.out.a _ (by exact rfl)).mono ?_; rintro e w1 ⟨rfl, qa, rfl⟩) | fail)
 go_ret
 exact PlR.mk (by first | exact qak w _ _ | exact qac (qak w _ _) _ | exact qac (qac (qak w _ _) _) _ | exact qac (qac (qac (qak w _ _) _) _) _ | exact qac (qac (qac (qac (qak w _ _) _) _) _) _) HR.out.symm
theorem qnr (h k : TxH) (bi bp : Bool) (w : World) (HC : Hid (PlC ((w.alloc (qba h)).alloc (qba k)) h k true true bi bp)) (e0 : h.n.ty = k.n.ty) (e1 : h.n.path = k.n.path) (e4 : h.n.ow = k.n.ow) (e5 : ¬ h.n.ve = k.n.ve) :
  Calls Tryz.prog 178 #[txV h, txV k] w (PlR w (plB h k true true bi bp)) := by
 have HR := Lib.hid (show plB h k true true bi bp = false by unfold plB; rw [decide_eq_true e0, decide_eq_true e1, decide_eq_true e4, decide_eq_false e5]; simp)
 have f0 : (h.n.ty == k.n.ty) = true := qaA _ _ e0
 have f1 : (h.n.path.toList == k.n.path.toList) = true := qbF h.n.path k.n.path e1
 have f4 : (h.n.ow == k.n.ow) = true := qaA _ _ e4
 have f5 : (h.n.ve == k.n.ve) = false := qcq _ _ e5
 clear e0 e1 e4 e5
 unfold txV
 go_enter Tryz.func178, Tryz.ntmps178
 go_wp2_with (first | (go_at_call 209; refine (HC.out.d _ (by exact rfl)).mono ?_; rintro e w1 ⟨rfl, qd, rfl⟩) | (go_at_call 210; refine (HC.out.a _ (by exact rfl)).mono ?_; rintro e w1 ⟨rfl, qa, rfl⟩) | fail)
 go_ret
 exact PlR.mk (by first | exact qak w _ _ | exact qac (qak w _ _) _ | exact qac (qac (qak w _ _) _) _ | exact qac (qac (qac (qak w _ _) _) _) _ | exact qac (qac (qac (qac (qak w _ _) _) _) _) _) HR.out.symm
theorem qnj (h k : TxH) (bi bp : Bool) (w : World) (HC : Hid (PlC ((w.alloc (qba h)).alloc (qba k)) h k true true bi bp)) (e0 : h.n.ty = k.n.ty) (e1 : h.n.path = k.n.path) (e4 : h.n.ow = k.n.ow) (e5 : h.n.ve = k.n.ve) (e6 : ¬ h.n.cr = k.n.cr) :
  Calls Tryz.prog 178 #[txV h, txV k] w (PlR w (plB h k true true bi bp)) := by
 have HR := Lib.hid (show plB h k true true bi bp = false by unfold plB; rw [decide_eq_true e0, decide_eq_true e1, decide_eq_true e4, decide_eq_true e5, decide_eq_false e6]; simp)
 have f0 : (h.n.ty == k.n.ty) = true := qaA _ _ e0
 have f1 : (h.n.path.toList == k.n.path.toList) = true := qbF h.n.path k.n.path e1
 have f4 : (h.n.ow == k.n.ow) = true := qaA _ _ e4
 have f5 : (h.n.ve == k.n.ve) = true := qaA _ _ e5
 have f6 : (h.n.cr == k.n.cr) = false := qcq _ _ e6
 clear e0 e1 e4 e5 e6
 unfold txV
 go_enter Tryz.func178, Tryz.ntmps178
 go_wp2_with (first | (go_at_call 209; refine (HC.out.d _ (by exact rfl)).mono ?_; rintro e w1 ⟨rfl, qd, rfl⟩) | (go_at_call 210; refine (HC.out.a _ (by exact rfl)).mono ?_; rintro e w1 ⟨rfl, qa, rfl⟩) | fail)
 go_ret
 exact PlR.mk (by first | exact qak w _ _ | exact qac (qak w _ _) _ | exact qac (qac (qak w _ _) _) _ | exact qac (qac (qac (qak w _ _) _) _) _ | exact qac (qac (qac (qac (qak w _ _) _) _) _) _) HR.out.symm
theorem qnT (h k : TxH) (bi bp : Bool) (w : World) (HC : Hid (PlC ((w.alloc (qba h)).alloc (qba k)) h k true true bi bp)) (e0 : h.n.ty = k.n.ty) (e1 : h.n.path = k.n.path) (e4 : h.n.ow = k.n.ow) (e5 : h.n.ve = k.n.ve) (e6 : h.n.cr = k.n.cr) (e7 : ¬ (h.n.qh, h.n.qc, h.n.qb) = (k.n.qh, k.n.qc, k.n.qb)) :
  Calls Tryz.prog 178 #[txV h, txV k] w (PlR w (plB h k true true bi bp)) := by
 have HR := Lib.hid (show plB h k true true bi bp = false by unfold plB; rw [decide_eq_true e0, decide_eq_true e1, decide_eq_true e4, decide_eq_true e5, decide_eq_true e6, decide_eq_false e7]; simp)
 have f0 : (h.n.ty == k.n.ty) = true := qaA _ _ e0
 have f1 : (h.n.path.toList == k.n.path.toList) = true := qbF h.n.path k.n.path e1
 have f4 : (h.n.ow == k.n.ow) = true := qaA _ _ e4
 have f5 : (h.n.ve == k.n.ve) = true := qaA _ _ e5
 have f6 : (h.n.cr == k.n.cr) = true := qaA _ _ e6
 have f7 := fun w : World => eqQ w h.n.qh k.n.qh h.n.qc h.n.qb k.n.qc k.n.qb
 have f7b := Lib.hid e7
 rw [decide_eq_false e7] at f7
 clear e0 e1 e4 e5 e6 e7
 unfold txV
 go_enter Tryz.func178, Tryz.ntmps178
 go_wp2_with (first | (go_at_call 209; refine (HC.out.d _ (by exact rfl)).mono ?_; rintro e w1 ⟨rfl, qd, rfl⟩) | (go_at_call 210; refine (HC.out.a _ (by exact rfl)).mono ?_; rintro e w1 ⟨rfl, qa, rfl⟩) | fail)
 go_ret
 exact PlR.mk (by first | exact qak w _ _ | exact qac (qak w _ _) _ | exact qac (qac (qak w _ _) _) _ | exact qac (qac (qac (qak w _ _) _) _) _ | exact qac (qac (qac (qac (qak w _ _) _) _) _) _) HR.out.symm
end Go.Proofs.YtbpmmmnphpkdjaaGreatDoor

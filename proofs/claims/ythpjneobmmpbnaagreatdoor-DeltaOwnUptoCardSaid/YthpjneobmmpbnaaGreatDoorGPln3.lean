/- Cases of the walk of delta.plain, by the first field that differs (3). No condition. -/
import Derived.Test.YthpjneobmmpbnaaGreatDoorGPlnD
namespace Go.Proofs.YthpjneobmmpbnaaGreatDoor
open Go.RowKit Go.MapKept
set_option maxRecDepth 100000 in
set_option maxHeartbeats 4000000 in
theorem plain_8 (h k : TxH) (bi bp : Bool) (w : World) (HC : Hid (PlC ((w.alloc (objTx h)).alloc (objTx k)) h k true true bi bp)) (e0 : h.n.ty = k.n.ty) (e1 : h.n.path = k.n.path) (e4 : h.n.ow = k.n.ow) (e5 : h.n.ve = k.n.ve) (e6 : h.n.cr = k.n.cr) (e7 : (h.n.qh, h.n.qc, h.n.qb) = (k.n.qh, k.n.qc, k.n.qb)) (e8 : ¬ h.n.si = k.n.si) :
    Calls Tryz.prog 134 #[txV h, txV k] w (PlR w (plB h k true true bi bp)) := by
  have HR := Lib.hid (show plB h k true true bi bp = false by unfold plB; rw [decide_eq_true e0, decide_eq_true e1, decide_eq_true e4, decide_eq_true e5, decide_eq_true e6, decide_eq_true e7, decide_eq_false e8]; simp)
  have f0 : (h.n.ty == k.n.ty) = true := int_same _ _ e0
  have f1 : (h.n.path.toList == k.n.path.toList) = true := str_same h.n.path k.n.path e1
  have f4 : (h.n.ow == k.n.ow) = true := int_same _ _ e4
  have f5 : (h.n.ve == k.n.ve) = true := int_same _ _ e5
  have f6 : (h.n.cr == k.n.cr) = true := int_same _ _ e6
  have f7 := fun w : World => eqQ w h.n.qh k.n.qh h.n.qc h.n.qb k.n.qc k.n.qb
  have f7b := Lib.hid e7
  rw [decide_eq_true e7] at f7
  have f8 : (h.n.si == k.n.si) = false := int_other _ _ e8
  clear e0 e1 e4 e5 e6 e7 e8
  unfold txV
  go_enter Tryz.func134, Tryz.ntmps134
  go_wp2_with (first | (go_at_call 183; refine (HC.out.d _ (by exact rfl)).mono ?_; rintro e w1 ⟨rfl, qd, rfl⟩) | (go_at_call 184; refine (HC.out.a _ (by exact rfl)).mono ?_; rintro e w1 ⟨rfl, qa, rfl⟩) | fail)
  go_ret
  exact PlR.mk (by first | exact two_below w _ _ | exact drewN_below (two_below w _ _) _ | exact drewN_below (drewN_below (two_below w _ _) _) _ | exact drewN_below (drewN_below (drewN_below (two_below w _ _) _) _) _ | exact drewN_below (drewN_below (drewN_below (drewN_below (two_below w _ _) _) _) _) _) HR.out.symm
set_option maxRecDepth 100000 in
set_option maxHeartbeats 4000000 in
theorem plain_9 (h k : TxH) (bi bp : Bool) (w : World) (HC : Hid (PlC ((w.alloc (objTx h)).alloc (objTx k)) h k true true bi bp)) (e0 : h.n.ty = k.n.ty) (e1 : h.n.path = k.n.path) (e4 : h.n.ow = k.n.ow) (e5 : h.n.ve = k.n.ve) (e6 : h.n.cr = k.n.cr) (e7 : (h.n.qh, h.n.qc, h.n.qb) = (k.n.qh, k.n.qc, k.n.qb)) (e8 : h.n.si = k.n.si) (e9 : ¬ h.n.st = k.n.st) :
    Calls Tryz.prog 134 #[txV h, txV k] w (PlR w (plB h k true true bi bp)) := by
  have HR := Lib.hid (show plB h k true true bi bp = false by unfold plB; rw [decide_eq_true e0, decide_eq_true e1, decide_eq_true e4, decide_eq_true e5, decide_eq_true e6, decide_eq_true e7, decide_eq_true e8, decide_eq_false e9]; simp)
  have f0 : (h.n.ty == k.n.ty) = true := int_same _ _ e0
  have f1 : (h.n.path.toList == k.n.path.toList) = true := str_same h.n.path k.n.path e1
  have f4 : (h.n.ow == k.n.ow) = true := int_same _ _ e4
  have f5 : (h.n.ve == k.n.ve) = true := int_same _ _ e5
  have f6 : (h.n.cr == k.n.cr) = true := int_same _ _ e6
  have f7 := fun w : World => eqQ w h.n.qh k.n.qh h.n.qc h.n.qb k.n.qc k.n.qb
  have f7b := Lib.hid e7
  rw [decide_eq_true e7] at f7
  have f8 : (h.n.si == k.n.si) = true := int_same _ _ e8
  have f9 : (h.n.st == k.n.st) = false := int_other _ _ e9
  clear e0 e1 e4 e5 e6 e7 e8 e9
  unfold txV
  go_enter Tryz.func134, Tryz.ntmps134
  go_wp2_with (first | (go_at_call 183; refine (HC.out.d _ (by exact rfl)).mono ?_; rintro e w1 ⟨rfl, qd, rfl⟩) | (go_at_call 184; refine (HC.out.a _ (by exact rfl)).mono ?_; rintro e w1 ⟨rfl, qa, rfl⟩) | fail)
  go_ret
  exact PlR.mk (by first | exact two_below w _ _ | exact drewN_below (two_below w _ _) _ | exact drewN_below (drewN_below (two_below w _ _) _) _ | exact drewN_below (drewN_below (drewN_below (two_below w _ _) _) _) _ | exact drewN_below (drewN_below (drewN_below (drewN_below (two_below w _ _) _) _) _) _) HR.out.symm
set_option maxRecDepth 100000 in
set_option maxHeartbeats 4000000 in
theorem plain_10 (h k : TxH) (bp : Bool) (w : World) (HC : Hid (PlC ((w.alloc (objTx h)).alloc (objTx k)) h k true true false bp)) (e0 : h.n.ty = k.n.ty) (e1 : h.n.path = k.n.path) (e4 : h.n.ow = k.n.ow) (e5 : h.n.ve = k.n.ve) (e6 : h.n.cr = k.n.cr) (e7 : (h.n.qh, h.n.qc, h.n.qb) = (k.n.qh, k.n.qc, k.n.qb)) (e8 : h.n.si = k.n.si) (e9 : h.n.st = k.n.st) :
    Calls Tryz.prog 134 #[txV h, txV k] w (PlR w (plB h k true true false bp)) := by
  have HR := Lib.hid (show plB h k true true false bp = false by unfold plB; rw [decide_eq_true e0, decide_eq_true e1, decide_eq_true e4, decide_eq_true e5, decide_eq_true e6, decide_eq_true e7, decide_eq_true e8, decide_eq_true e9]; simp)
  have f0 : (h.n.ty == k.n.ty) = true := int_same _ _ e0
  have f1 : (h.n.path.toList == k.n.path.toList) = true := str_same h.n.path k.n.path e1
  have f4 : (h.n.ow == k.n.ow) = true := int_same _ _ e4
  have f5 : (h.n.ve == k.n.ve) = true := int_same _ _ e5
  have f6 : (h.n.cr == k.n.cr) = true := int_same _ _ e6
  have f7 := fun w : World => eqQ w h.n.qh k.n.qh h.n.qc h.n.qb k.n.qc k.n.qb
  have f7b := Lib.hid e7
  rw [decide_eq_true e7] at f7
  have f8 : (h.n.si == k.n.si) = true := int_same _ _ e8
  have f9 : (h.n.st == k.n.st) = true := int_same _ _ e9
  clear e0 e1 e4 e5 e6 e7 e8 e9
  unfold txV
  go_enter Tryz.func134, Tryz.ntmps134
  go_wp2_with (first | (go_at_call 183; refine (HC.out.d _ (by exact rfl)).mono ?_; rintro e w1 ⟨rfl, qd, rfl⟩) | (go_at_call 184; refine (HC.out.a _ (by exact rfl)).mono ?_; rintro e w1 ⟨rfl, qa, rfl⟩) | (go_at_call 185; refine (HC.out.i _ (by exact rfl)).mono ?_; rintro e w1 ⟨rfl, qi, rfl⟩) | fail)
  go_ret
  exact PlR.mk (by first | exact two_below w _ _ | exact drewN_below (two_below w _ _) _ | exact drewN_below (drewN_below (two_below w _ _) _) _ | exact drewN_below (drewN_below (drewN_below (two_below w _ _) _) _) _ | exact drewN_below (drewN_below (drewN_below (drewN_below (two_below w _ _) _) _) _) _) HR.out.symm
end Go.Proofs.YthpjneobmmpbnaaGreatDoor

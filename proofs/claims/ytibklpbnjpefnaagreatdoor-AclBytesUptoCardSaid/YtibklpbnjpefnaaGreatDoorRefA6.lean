/- The walks of arborref06.digest, Identity, Right. Condition: the texts have fewer than 2^47 bytes. -/
import Derived.Test.YtibklpbnjpefnaaGreatDoorRefA5
namespace Go.Proofs.YtibklpbnjpefnaaGreatDoor
open Go.RowKit

set_option maxRecDepth 100000 in
set_option maxHeartbeats 2000000 in
theorem refDigest_any (s : ByteArray) (hs : s.size ≤ 140737488355327) (w : World) :
    Calls Tryz.prog 119 #[.string s] w (SameB w (textOk s && digestP s)) := by
  have hq := cutAt_le s 0 58 (by omega)
  have cC := fun W => cut_any s (by omega) 0 (by omega) 58 W
  rw [show (((58 : UInt8).toNat : Nat) : Int) = 58 from rfl] at cC
  have cT := fun W => refText_any s (by omega) W
  have HD := Lib.hid (show digestP s = (decide (0 < cutAt s 0 58) && decide (cutAt s 0 58 < s.size)) by rw [cutAt_zero]; rfl)
  generalize cutAt s 0 58 = q at *
  cases ht : textOk s with
  | false =>
    rw [ht] at cT
    have HT := Lib.hid ht; clear ht
    go_enter Tryz.func119, Tryz.ntmps119
    go_wp2_with fail
    refine (cC _).mono ?_
    rintro e w1 ⟨rfl, rfl⟩
    go_wp2_with fail
    refine (cT _).mono ?_
    rintro e w1 ⟨rfl, rfl⟩
    go_wp2
    go_ret
    exact SameB.mk rfl
  | true =>
    rw [ht] at cT
    have HT := Lib.hid ht; clear ht
    by_cases h0 : 0 < q
    · by_cases h1 : q < s.size
      all_goals
        go_enter Tryz.func119, Tryz.ntmps119
        go_wp2_with fail
        refine (cC _).mono ?_
        rintro e w1 ⟨rfl, rfl⟩
        go_wp2_with fail
        refine (cT _).mono ?_
        rintro e w1 ⟨rfl, rfl⟩
        go_wp2
        go_ret
        exact SameB.mk (by rw [HD.out]; simp [h0, h1])
    · go_enter Tryz.func119, Tryz.ntmps119
      go_wp2_with fail
      refine (cC _).mono ?_
      rintro e w1 ⟨rfl, rfl⟩
      go_wp2_with fail
      refine (cT _).mono ?_
      rintro e w1 ⟨rfl, rfl⟩
      go_wp2
      go_ret
      exact SameB.mk (by rw [HD.out]; simp [h0])

set_option maxRecDepth 100000 in
set_option maxHeartbeats 2000000 in
theorem refIdent_any (s t : ByteArray) (ht : t.size ≤ 140737488355327) (w : World) :
    Calls Tryz.prog 93 #[.agg #[.string s, .string t]] w (RetB w (identP (s, t))) := by
  have HR := Lib.hid (identP_eq s t)
  have hb0 : Below w.heap.size w (w.alloc (.cells #[.string s, .string t] 69)) := (Below.refl _ w).alloc (Nat.le_refl _) _
  have f1 := str_digest s; have f2 := str_ip s; have f3 := str_super s
  by_cases e1 : s = sDigest
  · have HV : Hid (identP (s, t) = (textOk t && digestP t)) := Lib.hid (by rw [HR.out, if_pos e1])
    rw [decide_eq_true e1] at f1
    have cD := fun W => refDigest_any t ht W
    clear e1 f2 f3 HR
    generalize (textOk t && digestP t) = b at *
    go_enter Tryz.func93, Tryz.ntmps93
    go_wp2_with fail
    refine (cD _).mono ?_
    rintro e w1 ⟨rfl, rfl⟩
    go_wp2
    go_ret
    exact RetB.mk hb0 HV.out.symm
  rw [decide_eq_false e1] at f1
  by_cases e2 : s = sIp
  · have HV : Hid (identP (s, t) = (adr t).isSome) := Lib.hid (by rw [HR.out, if_neg e1, if_pos e2])
    rw [decide_eq_true e2] at f2
    have cD := fun W => refAdr_any t ht W
    unfold SameA at cD
    clear e1 e2 f3 HR
    generalize (adr t).isSome = b at *
    generalize (adr t).getD 0 = a at *
    go_enter Tryz.func93, Tryz.ntmps93
    go_wp2_with fail
    refine (cD _).mono ?_
    rintro e w1 ⟨rfl, rfl⟩
    go_wp2
    go_ret
    exact RetB.mk hb0 HV.out.symm
  rw [decide_eq_false e2] at f2
  by_cases e3 : s = sSuper
  · have HV : Hid (identP (s, t) = textOk t) := Lib.hid (by rw [HR.out, if_neg e1, if_neg e2, decide_eq_true e3, Bool.true_and])
    rw [decide_eq_true e3] at f3
    have cD := fun W => refText_any t (by omega) W
    clear e1 e2 e3 HR
    generalize textOk t = b at *
    go_enter Tryz.func93, Tryz.ntmps93
    go_wp2_with fail
    refine (cD _).mono ?_
    rintro e w1 ⟨rfl, rfl⟩
    go_wp2
    go_ret
    exact RetB.mk hb0 HV.out.symm
  · have HV : Hid (identP (s, t) = false) := Lib.hid (by rw [HR.out, if_neg e1, if_neg e2, decide_eq_false e3, Bool.false_and])
    rw [decide_eq_false e3] at f3
    clear e1 e2 e3 HR
    go_enter Tryz.func93, Tryz.ntmps93
    go_wp2
    go_ret
    exact RetB.mk hb0 HV.out.symm

end Go.Proofs.YtibklpbnjpefnaaGreatDoor

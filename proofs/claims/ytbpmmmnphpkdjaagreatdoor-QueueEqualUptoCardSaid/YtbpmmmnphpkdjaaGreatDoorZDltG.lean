/- The walks of delta.named, delta.great. Condition: texts shorter than 2^31, lists shorter than 2^48. The walk of delta.great. Condition: lists shorter than 2^20. -/
import Derived.Test.YtbpmmmnphpkdjaaGreatDoorZRgtP
import Derived.Test.YtbpmmmnphpkdjaaGreatDoorZDltB
import Derived.Test.YtbpmmmnphpkdjaaGreatDoorZPathW
import Derived.Test.YtbpmmmnphpkdjaaGreatDoorZRowX
namespace Go.Proofs.YtbpmmmnphpkdjaaGreatDoor
open Go.RowKit Go.MapKept
theorem slash_str (s : ByteArray) : (s.toList == [47]) = decide (s = sSlash) := str_is2 s _
theorem bad_any (s : ByteArray) (hs : s.size < 2147483648) (w : World) (hE : Env w) : Calls Tryz.prog 169 #[.string s] w (RetB w (badB s)) := by
  have cV := valid_any s hs w hE
  have f := slash_str s
  have HB := Lib.hid (show badB s = (!validP s || decide (s = sSlash)) from rfl)
  cases hv : validP s with
  | false =>
    rw [hv] at cV HB
    clear hv f
    go_enter Tryz.func169, Tryz.ntmps169
    go_wp2_with (go_at_call 170; refine cV.mono ?_; rintro e w1 ⟨rfl, hb⟩)
    go_ret
    exact RetB.mk hb (by rw [HB.out]; rfl)
  | true =>
    rw [hv] at cV HB
    clear hv
    generalize decide (s = sSlash) = b at *
    go_enter Tryz.func169, Tryz.ntmps169
    go_wp2_with (go_at_call 170; refine cV.mono ?_; rintro e w1 ⟨rfl, hb⟩)
    go_ret
    exact RetB.mk hb (by rw [HB.out]; simp)
theorem tx_below (w : World) (h : TxH) : Below w.heap.size w (w.alloc (.cells #[.int .i32 h.n.ty, .string h.n.path, slV h.d, slV h.a, .int .i64 h.n.ow, .int .i32 h.n.ve, .int .i32 h.n.cr, .bool h.n.qh, .int .i64 h.n.qc, .int .i64 h.n.qb, .int .i64 h.n.si, .int .i32 h.n.st, slV h.i, slV h.p, .int .i32 h.n.co, slV h.s] 52)) := (Below.refl _ w).alloc (Nat.le_refl _) _
theorem part_false (t : Int) (h : partB t = false) : (t == 1) = false ∧ (t == 2) = false := by
  unfold partB at h
  rw [decide_eq_false_iff_not] at h
  exact ⟨beq_eq_false_iff_ne.2 fun e => h (.inl e), beq_eq_false_iff_ne.2 fun e => h (.inr (.inl e))⟩
set_option maxRecDepth 100000 in
theorem named_any (h : TxH) (v : TxF) (w : World) (R : Nat → Prop) (hv : locTx w R h v) (hE : Env w) (hs : v.n.path.size < 2147483648) (hp : v.paths.length ≤ 1048576) (hps : ∀ j, j < v.paths.length → v.paths[j]!.size < 2147483648) :
    Calls Tryz.prog 137 #[txV h] w (RetB w (namedB v)) := by
  have hb0 := tx_below w h
  have hn := hv.1
  have hE0 := hE.below (Nat.le_refl _) hb0
  have hpl := hv.2.2.2.2.len
  have hz := (hv.2.2.2.2.sl (fun _ => by simp [encStr])).belowMore hb0 hb0.size
  have HB := Lib.hid hb0
  have HD := Lib.hid (show namedB v = if h.n.ty = 1 ∨ h.n.ty = 2 then badB h.n.path else if partB h.n.ty then !validP h.n.path else if h.n.ty = -11 then v.paths.any badB else false by unfold namedB; rw [hn])
  rw [hn] at hs
  unfold txV
  by_cases h12 : h.n.ty = 1 ∨ h.n.ty = 2
  · rw [if_pos h12] at HD
    have cB := Lib.hid (bad_any h.n.path hs _ hE0)
    clear hE0 hz hb0
    rcases h12 with h1 | h1
    · have e1 : (h.n.ty == 1) = true := by rw [h1]; rfl
      clear h1
      go_enter Tryz.func137, Tryz.ntmps137
      go_wp2_with (go_at_call 169; refine cB.out.mono ?_; rintro e w1 ⟨rfl, hb⟩)
      go_ret
      exact RetB.mk (HB.out.trans (hb.mono HB.out.size)) HD.out.symm
    · have e1 : (h.n.ty == 1) = false := by rw [h1]; rfl
      have e2 : (h.n.ty == 2) = true := by rw [h1]; rfl
      clear h1
      go_enter Tryz.func137, Tryz.ntmps137
      go_wp2_with (go_at_call 169; refine cB.out.mono ?_; rintro e w1 ⟨rfl, hb⟩)
      go_ret
      exact RetB.mk (HB.out.trans (hb.mono HB.out.size)) HD.out.symm
  · rw [if_neg h12] at HD
    have e1 : (h.n.ty == 1) = false := beq_eq_false_iff_ne.2 fun e => h12 (.inl e)
    have e2 : (h.n.ty == 2) = false := beq_eq_false_iff_ne.2 fun e => h12 (.inr e)
    clear h12
    have cP := Lib.hid (fun W => part_any h.n.ty W)
    cases hpt : partB h.n.ty with
    | true =>
      rw [hpt] at HD cP
      have cV := Lib.hid (valid_any h.n.path hs _ hE0)
      have HV := Lib.hid (show namedB v = !validP h.n.path by rw [HD.out]; rfl)
      clear hpt hE0 hz hb0 HD
      generalize validP h.n.path = b at *
      go_enter Tryz.func137, Tryz.ntmps137
      go_wp2_with (first | (go_at_call 108; refine (cP.out _).mono ?_; rintro e w1 ⟨rfl, rfl⟩) | (go_at_call 170; refine cV.out.mono ?_; rintro e w1 ⟨rfl, hb⟩))
      go_ret
      exact RetB.mk (HB.out.trans (hb.mono HB.out.size)) HV.out.symm
    | false =>
      rw [hpt] at HD cP
      clear hpt
      by_cases h11 : h.n.ty = -11
      · have e3 : (h.n.ty == -11) = true := by rw [h11]; rfl
        have HV := Lib.hid (show namedB v = v.paths.any badB by rw [HD.out, if_neg (by simp), if_pos h11])
        have cC := Lib.hid (containsFuncStr_any h.p.1 h.p.2.1 h.p.2.2 169 (.func (.func 169) #[] #[]) rfl (enters_of Tryz.func169 (by kernel_rfl) rfl) v.paths badB _ hz (by omega) (fun W k hk hbW => bad_any _ (hps k (by omega)) W (hE0.below (Nat.le_refl _) hbW)))
        clear hE0 hz hb0 h11 HD
        generalize v.paths.any badB = b at *
        go_enter Tryz.func137, Tryz.ntmps137
        go_wp2_with (first | (go_at_call 108; refine (cP.out _).mono ?_; rintro e w1 ⟨rfl, rfl⟩) | (go_at_call 171; refine cC.out.mono ?_; rintro e w1 ⟨rfl, hb⟩))
        go_ret
        exact RetB.mk (HB.out.trans (hb.mono HB.out.size)) HV.out.symm
      · have e3 : (h.n.ty == -11) = false := beq_eq_false_iff_ne.2 h11
        have HV := Lib.hid (show namedB v = false by rw [HD.out, if_neg (by simp), if_neg h11])
        clear hE0 hz hb0 h11 HD
        go_enter Tryz.func137, Tryz.ntmps137
        go_wp2_with (go_at_call 108; refine (cP.out _).mono ?_; rintro e w1 ⟨rfl, rfl⟩)
        go_ret
        exact RetB.mk HB.out HV.out.symm
end Go.Proofs.YtbpmmmnphpkdjaaGreatDoor
namespace Go.Proofs.YtbpmmmnphpkdjaaGreatDoor
open Go.RowKit Go.MapKept
theorem long_any (s t : ByteArray) (w : World) : Calls Tryz.prog 172 #[.agg #[.string s, .string t]] w (RetB w (longB (s, t))) := by
  have hb0 : Below w.heap.size w (w.alloc (.cells #[.string s, .string t] 155)) := (Below.refl _ w).alloc (Nat.le_refl _) _
  have HB := Lib.hid hb0
  have HL := Lib.hid (show longB (s, t) = (decide (256 < s.size) || decide (256 < t.size)) from rfl)
  clear hb0
  by_cases h1 : 256 < s.size
  · have HV := Lib.hid (show longB (s, t) = true by rw [HL.out, decide_eq_true h1]; rfl)
    have d1 : decide (256 < (s.size : Int)) = true := decide_eq_true (by omega)
    clear h1
    go_enter Tryz.func172, Tryz.ntmps172
    go_wp2
    go_ret
    exact RetB.mk HB.out HV.out.symm
  · have d1 : decide (256 < (s.size : Int)) = false := decide_eq_false (by omega)
    have HV := Lib.hid (show longB (s, t) = decide (256 < (t.size : Int)) by rw [HL.out, decide_eq_false h1, Bool.false_or]; by_cases h : 256 < t.size; (rw [decide_eq_true h, decide_eq_true (by omega)]); (rw [decide_eq_false h, decide_eq_false (by omega)]))
    clear h1
    go_enter Tryz.func172, Tryz.ntmps172
    go_wp2
    go_ret
    exact RetB.mk HB.out HV.out.symm
theorem longA_any (p : Int) (s t : ByteArray) (b3 : Nat) (w : World) (hc : w.cell? ⟨b3, 0, none⟩ = some (.func (.func 172) #[] #[])) : Calls Tryz.prog 174 #[.agg #[.int .i32 p, .string s, .string t], .pointer (some ⟨b3, 0, none⟩)] w (RetB w (longB (s, t))) := by
  have hb0 : Below w.heap.size w (w.alloc (.cells #[.int .i32 p, .string s, .string t] 246)) := (Below.refl _ w).alloc (Nat.le_refl _) _
  have hc0 : (w.alloc (.cells #[.int .i32 p, .string s, .string t] 246)).cell? ⟨b3, 0, none⟩ = some (.func (.func 172) #[] #[]) := keep1 hc hb0
  have z0 : (w.alloc (.cells #[.int .i32 p, .string s, .string t] 246)).cell? ⟨w.heap.size, 1, none⟩ = some (.string s) := by simp
  have z1 : (w.alloc (.cells #[.int .i32 p, .string s, .string t] 246)).cell? ⟨w.heap.size, 2, none⟩ = some (.string t) := by simp
  have HL := Lib.hid (long_any s t)
  have HB := Lib.hid hb0
  clear hc hb0
  go_enter Tryz.func174, Tryz.ntmps174
  go_wp2_with (go_at_call 172; refine (HL.out _).mono ?_; rintro e w1 ⟨rfl, hb⟩)
  go_ret
  exact RetB.mk (HB.out.trans (hb.mono HB.out.size)) rfl
set_option maxRecDepth 100000 in
theorem great_any (h : TxH) (v : TxF) (w : World) (R : Nat → Prop) (hv : locTx w R h v) (ha : v.acl.length ≤ 1048576) (hi : v.ids.length ≤ 1048576) :
    Calls Tryz.prog 138 #[txV h] w (RetB w (greatB v h.s.2.1)) := by
  have hb0 : Below w.heap.size w ((w.alloc (.cells #[.int .i32 h.n.ty, .string h.n.path, slV h.d, slV h.a, .int .i64 h.n.ow, .int .i32 h.n.ve, .int .i32 h.n.cr, .bool h.n.qh, .int .i64 h.n.qc, .int .i64 h.n.qb, .int .i64 h.n.si, .int .i32 h.n.st, slV h.i, slV h.p, .int .i32 h.n.co, slV h.s] 52)).alloc (.cells #[.func (.func 172) #[] #[]] 156)) := (tx_below w h).alloc (by simp) _
  have hd := hv.2.1.len; have hal := hv.2.2.1.len; have hil := hv.2.2.2.1.len; have hpl := hv.2.2.2.2.len
  have HD := Lib.hid (show greatB v h.s.2.1 = (decide (1048575 < h.d.2.1) || decide (16 < h.a.2.1) || decide (1024 < h.p.2.1) || decide (1024 < h.s.2.1) || v.acl.any (fun a => longB a.2) || v.ids.any longB) by unfold greatB; rw [hd, hal, hpl])
  have za := (hv.2.2.1.sl (fun _ => by simp [encAcl])).belowMore hb0 hb0.size
  have zi := (hv.2.2.2.1.sl (fun _ => by simp [encId])).belowMore hb0 hb0.size
  have hcf : ((w.alloc (.cells #[.int .i32 h.n.ty, .string h.n.path, slV h.d, slV h.a, .int .i64 h.n.ow, .int .i32 h.n.ve, .int .i32 h.n.cr, .bool h.n.qh, .int .i64 h.n.qc, .int .i64 h.n.qb, .int .i64 h.n.si, .int .i32 h.n.st, slV h.i, slV h.p, .int .i32 h.n.co, slV h.s] 52)).alloc (.cells #[.func (.func 172) #[] #[]] 156)).cell? ⟨w.heap.size + 1, 0, none⟩ = some (.func (.func 172) #[] #[]) := by simp
  have cA := Lib.hid (fun W hbW => containsFuncAcl_any h.a.1 h.a.2.1 h.a.2.2 174 #[.pointer (some ⟨w.heap.size + 1, 0, none⟩)] (enters_of Tryz.func174 (by kernel_rfl) rfl) v.acl (fun a => longB a.2) W (za.belowMore hbW hbW.size) (by omega) (fun W2 k hk hb2 => longA_any _ _ _ _ W2 (keep1 (keep1 hcf hbW) hb2)))
  have cI := Lib.hid (fun W hbW => containsFuncId_any h.i.1 h.i.2.1 h.i.2.2 172 #[] (enters_of Tryz.func172 (by kernel_rfl) rfl) v.ids longB W (zi.belowMore hbW hbW.size) (by omega) (fun W2 k hk hb2 => long_any _ _ W2))
  have HCF := Lib.hid hcf
  have hst := store_new1 (P := Tryz.prog) (w.alloc (.cells #[.int .i32 h.n.ty, .string h.n.path, slV h.d, slV h.a, .int .i64 h.n.ow, .int .i32 h.n.ve, .int .i32 h.n.cr, .bool h.n.qh, .int .i64 h.n.qc, .int .i64 h.n.qb, .int .i64 h.n.si, .int .i32 h.n.st, slV h.i, slV h.p, .int .i32 h.n.co, slV h.s] 52)) 156 .nilFunc (.func (.func 172) #[] #[]) rfl (sz1 w _)
  have HB := Lib.hid hb0
  clear hb0 za zi hcf hd hpl hal hil ha hi
  unfold txV
  by_cases h1 : 1048575 < h.d.2.1
  · have d1 : decide (1048575 < (h.d.2.1 : Int)) = true := decide_eq_true (by omega)
    have HV := Lib.hid (show greatB v h.s.2.1 = true by rw [HD.out, decide_eq_true h1]; simp)
    clear h1 HD
    go_enter Tryz.func138, Tryz.ntmps138
    go_wp2_with fail
    go_ret
    exact RetB.mk HB.out HV.out.symm
  have d1 : decide (1048575 < (h.d.2.1 : Int)) = false := decide_eq_false (by omega)
  by_cases h2 : 16 < h.a.2.1
  · have d2 : decide (16 < (h.a.2.1 : Int)) = true := decide_eq_true (by omega)
    have HV := Lib.hid (show greatB v h.s.2.1 = true by rw [HD.out, decide_eq_true h2]; simp)
    clear h1 h2 HD
    go_enter Tryz.func138, Tryz.ntmps138
    go_wp2_with fail
    go_ret
    exact RetB.mk HB.out HV.out.symm
  have d2 : decide (16 < (h.a.2.1 : Int)) = false := decide_eq_false (by omega)
  by_cases h3 : 1024 < h.p.2.1
  · have d3 : decide (1024 < (h.p.2.1 : Int)) = true := decide_eq_true (by omega)
    have HV := Lib.hid (show greatB v h.s.2.1 = true by rw [HD.out, decide_eq_true h3]; simp)
    clear h1 h2 h3 HD
    go_enter Tryz.func138, Tryz.ntmps138
    go_wp2_with fail
    go_ret
    exact RetB.mk HB.out HV.out.symm
  have d3 : decide (1024 < (h.p.2.1 : Int)) = false := decide_eq_false (by omega)
  by_cases h4 : 1024 < h.s.2.1
  · have d4 : decide (1024 < (h.s.2.1 : Int)) = true := decide_eq_true (by omega)
    have HV := Lib.hid (show greatB v h.s.2.1 = true by rw [HD.out, decide_eq_true h4]; simp)
    clear h1 h2 h3 h4 HD
    go_enter Tryz.func138, Tryz.ntmps138
    go_wp2_with fail
    go_ret
    exact RetB.mk HB.out HV.out.symm
  have d4 : decide (1024 < (h.s.2.1 : Int)) = false := decide_eq_false (by omega)
  have HV := Lib.hid (show greatB v h.s.2.1 = (v.acl.any (fun a => longB a.2) || v.ids.any longB) by rw [HD.out, decide_eq_false h1, decide_eq_false h2, decide_eq_false h3, decide_eq_false h4]; rfl)
  clear h1 h2 h3 h4 HD
  generalize v.ids.any longB = bi at *
  cases hq : v.acl.any (fun a => longB a.2) with
  | true =>
    rw [hq] at HV cA
    clear hq
    go_enter Tryz.func138, Tryz.ntmps138
    go_wp2_with (go_at_call 173; refine (cA.out _ (Below.refl _ _)).mono ?_; rintro e w1 ⟨rfl, hb⟩)
    go_ret
    exact RetB.mk (HB.out.trans (hb.mono HB.out.size)) (by rw [HV.out]; rfl)
  | false =>
    rw [hq] at HV cA
    clear hq
    have zz : ((w.alloc (.cells #[.int .i32 h.n.ty, .string h.n.path, slV h.d, slV h.a, .int .i64 h.n.ow, .int .i32 h.n.ve, .int .i32 h.n.cr, .bool h.n.qh, .int .i64 h.n.qc, .int .i64 h.n.qb, .int .i64 h.n.si, .int .i32 h.n.st, slV h.i, slV h.p, .int .i32 h.n.co, slV h.s] 52)).alloc (.cells #[.func (.func 172) #[] #[]] 156)).cell? ⟨w.heap.size, 12, none⟩ = some (slV h.i) := by simp
    have ZZ := Lib.hid zz
    clear zz
    go_enter Tryz.func138, Tryz.ntmps138
    go_wp2_with (first | (go_at_call 173; refine (cA.out _ (Below.refl _ _)).mono ?_; rintro e w1 ⟨rfl, hb⟩; have y1 := keep1 HCF.out hb; have y2 := keep1 ZZ.out hb) | (go_at_call 175; refine (cI.out _ hb).mono ?_; rintro e w2 ⟨rfl, hb2⟩))
    go_ret
    exact RetB.mk (HB.out.trans ((hb.trans (hb2.mono hb.size)).mono HB.out.size)) (by rw [HV.out]; rfl)
end Go.Proofs.YtbpmmmnphpkdjaaGreatDoor

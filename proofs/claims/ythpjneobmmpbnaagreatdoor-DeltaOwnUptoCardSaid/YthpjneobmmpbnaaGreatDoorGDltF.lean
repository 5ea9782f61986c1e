/- The walks of delta.named, delta.great. Condition: texts shorter than 2^31, lists shorter than 2^48. -/
import Derived.Test.YthpjneobmmpbnaaGreatDoorGRf3
import Derived.Test.YthpjneobmmpbnaaGreatDoorGPlnD
import Derived.Test.YthpjneobmmpbnaaGreatDoorGPathW
import Derived.Test.YthpjneobmmpbnaaGreatDoorGDltA
import Derived.Test.YthpjneobmmpbnaaGreatDoorGQuoM
import Derived.Test.YthpjneobmmpbnaaGreatDoorGTreC
import Derived.Deep.Cut
import Derived.Deep.CutBlock
namespace Go.Proofs.YthpjneobmmpbnaaGreatDoor
open Go.RowKit Go.MapKept
theorem slash_str (s : ByteArray) : (s.toList == [47]) = decide (s = sSlash) := str_is2 s _
theorem bad_any (s : ByteArray) (hs : s.size < 2147483648) (w : World) (hE : Env w) : Calls Tryz.prog 153 #[.string s] w (RetB w (badB s)) := by
  have cV := valid_any s hs w hE
  have f := slash_str s
  have HB := Lib.hid (show badB s = (!validP s || decide (s = sSlash)) from rfl)
  cases hv : validP s with
  | false =>
    rw [hv] at cV HB
    clear hv f
    go_enter Tryz.func153, Tryz.ntmps153
    go_wp2_with (go_at_call 71; refine cV.mono ?_; rintro e w1 ⟨rfl, hb⟩)
    go_ret
    exact RetB.mk hb (by rw [HB.out]; rfl)
  | true =>
    rw [hv] at cV HB
    clear hv
    generalize decide (s = sSlash) = b at *
    go_enter Tryz.func153, Tryz.ntmps153
    go_wp2_with (go_at_call 71; refine cV.mono ?_; rintro e w1 ⟨rfl, hb⟩)
    go_ret
    exact RetB.mk hb (by rw [HB.out]; simp)
theorem tx_below (w : World) (h : TxH) : Below w.heap.size w (w.alloc (.cells #[.int .i32 h.n.ty, .string h.n.path, slV h.d, slV h.a, .int .i64 h.n.ow, .int .i32 h.n.ve, .int .i32 h.n.cr, .bool h.n.qh, .int .i64 h.n.qc, .int .i64 h.n.qb, .int .i64 h.n.si, .int .i32 h.n.st, slV h.i, slV h.p, .int .i32 h.n.co, slV h.s] 33)) := (Below.refl _ w).alloc (Nat.le_refl _) _
set_option maxRecDepth 100000 in
theorem named_any (h : TxH) (v : TxF) (w : World) (R : Nat → Prop) (hv : locTx w R h v) (hE : Env w) (hs : v.n.path.size < 2147483648) (hp : v.paths.length ≤ 1048576) (hps : ∀ j, j < v.paths.length → v.paths[j]!.size < 2147483648) :
    Calls Tryz.prog 93 #[txV h] w (RetB w (namedB v)) := by
  have hb0 := tx_below w h
  have hn := hv.1
  have hE0 := hE.below (Nat.le_refl _) hb0
  have hpl := hv.2.2.2.2.len
  have hz := (hv.2.2.2.2.sl (fun _ => by simp [encStr])).belowMore hb0 hb0.size
  have HB := Lib.hid hb0
  have HD := Lib.hid (show namedB v = if h.n.ty = 1 ∨ h.n.ty = 2 then badB h.n.path else if partB h.n.ty then !validP h.n.path else if h.n.ty = -11 then v.paths.any badB else false by unfold namedB; rw [hn])
  rw [hn] at hs
  unfold txV
  by_cases h12 : h.n.ty = 1 ∨ h.n.ty = 2
  · rw [if_pos h12] at HD
    have cB := Lib.hid (bad_any h.n.path hs _ hE0)
    clear hE0 hz hb0
    rcases h12 with h1 | h1
    · have e1 : (h.n.ty == 1) = true := by rw [h1]; rfl
      clear h1
      go_enter Tryz.func93, Tryz.ntmps93
      go_wp2_with (go_at_call 153; refine cB.out.mono ?_; rintro e w1 ⟨rfl, hb⟩)
      go_ret
      exact RetB.mk (HB.out.trans (hb.mono HB.out.size)) HD.out.symm
    · have e1 : (h.n.ty == 1) = false := by rw [h1]; rfl
      have e2 : (h.n.ty == 2) = true := by rw [h1]; rfl
      clear h1
      go_enter Tryz.func93, Tryz.ntmps93
      go_wp2_with (go_at_call 153; refine cB.out.mono ?_; rintro e w1 ⟨rfl, hb⟩)
      go_ret
      exact RetB.mk (HB.out.trans (hb.mono HB.out.size)) HD.out.symm
  · rw [if_neg h12] at HD
    have e1 : (h.n.ty == 1) = false := beq_eq_false_iff_ne.2 fun e => h12 (.inl e)
    have e2 : (h.n.ty == 2) = false := beq_eq_false_iff_ne.2 fun e => h12 (.inr e)
    clear h12
    have cP := Lib.hid (fun W => part_any h.n.ty W)
    cases hpt : partB h.n.ty with
    | true =>
      rw [hpt] at HD cP
      have cV := Lib.hid (valid_any h.n.path hs _ hE0)
      have HV := Lib.hid (show namedB v = !validP h.n.path by rw [HD.out]; rfl)
      clear hpt hE0 hz hb0 HD
      generalize validP h.n.path = b at *
      go_enter Tryz.func93, Tryz.ntmps93
      go_wp2_with (first | (go_at_call 52; refine (cP.out _).mono ?_; rintro e w1 ⟨rfl, rfl⟩) | (go_at_call 71; refine cV.out.mono ?_; rintro e w1 ⟨rfl, hb⟩))
      go_ret
      exact RetB.mk (HB.out.trans (hb.mono HB.out.size)) HV.out.symm
    | false =>
      rw [hpt] at HD cP
      clear hpt
      by_cases h11 : h.n.ty = -11
      · have e3 : (h.n.ty == -11) = true := by rw [h11]; rfl
        have HV := Lib.hid (show namedB v = v.paths.any badB by rw [HD.out, if_neg (by simp), if_pos h11])
        have cC := Lib.hid (containsFuncStr_any h.p.1 h.p.2.1 h.p.2.2 153 (.func (.func 153) #[] #[]) rfl (enters_of Tryz.func153 (by kernel_rfl) rfl) v.paths badB _ hz (by omega) (fun W k hk hbW => bad_any _ (hps k (by omega)) W (hE0.below (Nat.le_refl _) hbW)))
        clear hE0 hz hb0 h11 HD
        generalize v.paths.any badB = b at *
        go_enter Tryz.func93, Tryz.ntmps93
        go_wp2_with (first | (go_at_call 52; refine (cP.out _).mono ?_; rintro e w1 ⟨rfl, rfl⟩) | (go_at_call 154; refine cC.out.mono ?_; rintro e w1 ⟨rfl, hb⟩))
        go_ret
        exact RetB.mk (HB.out.trans (hb.mono HB.out.size)) HV.out.symm
      · have e3 : (h.n.ty == -11) = false := beq_eq_false_iff_ne.2 h11
        have HV := Lib.hid (show namedB v = false by rw [HD.out, if_neg (by simp), if_neg h11])
        clear hE0 hz hb0 h11 HD
        go_enter Tryz.func93, Tryz.ntmps93
        go_wp2_with (go_at_call 52; refine (cP.out _).mono ?_; rintro e w1 ⟨rfl, rfl⟩)
        go_ret
        exact RetB.mk HB.out HV.out.symm
end Go.Proofs.YthpjneobmmpbnaaGreatDoor
namespace Go.Proofs.YthpjneobmmpbnaaGreatDoor
open Go.RowKit Go.MapKept
theorem long_any (s t : ByteArray) (w : World) : Calls Tryz.prog 155 #[.agg #[.string s, .string t]] w (RetB w (longB (s, t))) := by
  have hb0 : Below w.heap.size w (w.alloc (.cells #[.string s, .string t] 108)) := (Below.refl _ w).alloc (Nat.le_refl _) _
  have HB := Lib.hid hb0
  have HL := Lib.hid (show longB (s, t) = (decide (256 < s.size) || decide (256 < t.size)) from rfl)
  clear hb0
  by_cases h1 : 256 < s.size
  · have HV := Lib.hid (show longB (s, t) = true by rw [HL.out, decide_eq_true h1]; rfl)
    have d1 : decide (256 < (s.size : Int)) = true := decide_eq_true (by omega)
    clear h1
    go_enter Tryz.func155, Tryz.ntmps155
    go_wp2
    go_ret
    exact RetB.mk HB.out HV.out.symm
  · have d1 : decide (256 < (s.size : Int)) = false := decide_eq_false (by omega)
    have HV := Lib.hid (show longB (s, t) = decide (256 < (t.size : Int)) by rw [HL.out, decide_eq_false h1, Bool.false_or]; by_cases h : 256 < t.size; (rw [decide_eq_true h, decide_eq_true (by omega)]); (rw [decide_eq_false h, decide_eq_false (by omega)]))
    clear h1
    go_enter Tryz.func155, Tryz.ntmps155
    go_wp2
    go_ret
    exact RetB.mk HB.out HV.out.symm
theorem longA_any (p : Int) (s t : ByteArray) (b3 : Nat) (w : World) (hc : w.cell? ⟨b3, 0, none⟩ = some (.func (.func 155) #[] #[])) : Calls Tryz.prog 157 #[.agg #[.int .i32 p, .string s, .string t], .pointer (some ⟨b3, 0, none⟩)] w (RetB w (longB (s, t))) := by
  have hb0 : Below w.heap.size w (w.alloc (.cells #[.int .i32 p, .string s, .string t] 110)) := (Below.refl _ w).alloc (Nat.le_refl _) _
  have hc0 : (w.alloc (.cells #[.int .i32 p, .string s, .string t] 110)).cell? ⟨b3, 0, none⟩ = some (.func (.func 155) #[] #[]) := keep1 hc hb0
  have z0 : (w.alloc (.cells #[.int .i32 p, .string s, .string t] 110)).cell? ⟨w.heap.size, 1, none⟩ = some (.string s) := by simp
  have z1 : (w.alloc (.cells #[.int .i32 p, .string s, .string t] 110)).cell? ⟨w.heap.size, 2, none⟩ = some (.string t) := by simp
  have HL := Lib.hid (long_any s t)
  have HB := Lib.hid hb0
  clear hc hb0
  go_enter Tryz.func157, Tryz.ntmps157
  go_wp2_with (go_at_call 155; refine (HL.out _).mono ?_; rintro e w1 ⟨rfl, hb⟩)
  go_ret
  exact RetB.mk (HB.out.trans (hb.mono HB.out.size)) rfl
set_option maxRecDepth 100000 in
theorem great_any (h : TxH) (v : TxF) (w : World) (R : Nat → Prop) (hv : locTx w R h v) (ha : v.acl.length ≤ 1048576) (hi : v.ids.length ≤ 1048576) :
    Calls Tryz.prog 94 #[txV h] w (RetB w (greatB v h.s.2.1)) := by
  have hb0 : Below w.heap.size w ((w.alloc (.cells #[.int .i32 h.n.ty, .string h.n.path, slV h.d, slV h.a, .int .i64 h.n.ow, .int .i32 h.n.ve, .int .i32 h.n.cr, .bool h.n.qh, .int .i64 h.n.qc, .int .i64 h.n.qb, .int .i64 h.n.si, .int .i32 h.n.st, slV h.i, slV h.p, .int .i32 h.n.co, slV h.s] 33)).alloc (.cells #[.func (.func 155) #[] #[]] 177)) := (tx_below w h).alloc (by simp) _
  have hd := hv.2.1.len; have hal := hv.2.2.1.len; have hil := hv.2.2.2.1.len; have hpl := hv.2.2.2.2.len
  have HD := Lib.hid (show greatB v h.s.2.1 = (decide (1048575 < h.d.2.1) || decide (16 < h.a.2.1) || decide (1024 < h.p.2.1) || decide (1024 < h.s.2.1) || v.acl.any (fun a => longB a.2) || v.ids.any longB) by unfold greatB; rw [hd, hal, hpl])
  have za := (hv.2.2.1.sl (fun _ => by simp [encAcl])).belowMore hb0 hb0.size
  have zi := (hv.2.2.2.1.sl (fun _ => by simp [encId])).belowMore hb0 hb0.size
  have hcf : ((w.alloc (.cells #[.int .i32 h.n.ty, .string h.n.path, slV h.d, slV h.a, .int .i64 h.n.ow, .int .i32 h.n.ve, .int .i32 h.n.cr, .bool h.n.qh, .int .i64 h.n.qc, .int .i64 h.n.qb, .int .i64 h.n.si, .int .i32 h.n.st, slV h.i, slV h.p, .int .i32 h.n.co, slV h.s] 33)).alloc (.cells #[.func (.func 155) #[] #[]] 177)).cell? ⟨w.heap.size + 1, 0, none⟩ = some (.func (.func 155) #[] #[]) := by simp
  have cA := Lib.hid (fun W hbW => containsFuncAcl_any h.a.1 h.a.2.1 h.a.2.2 157 #[.pointer (some ⟨w.heap.size + 1, 0, none⟩)] (enters_of Tryz.func157 (by kernel_rfl) rfl) v.acl (fun a => longB a.2) W (za.belowMore hbW hbW.size) (by omega) (fun W2 k hk hb2 => longA_any _ _ _ _ W2 (keep1 (keep1 hcf hbW) hb2)))
  have cI := Lib.hid (fun W hbW => containsFuncId_any h.i.1 h.i.2.1 h.i.2.2 155 #[] (enters_of Tryz.func155 (by kernel_rfl) rfl) v.ids longB W (zi.belowMore hbW hbW.size) (by omega) (fun W2 k hk hb2 => long_any _ _ W2))
  have HCF := Lib.hid hcf
  have hst := store_new1 (P := Tryz.prog) (w.alloc (.cells #[.int .i32 h.n.ty, .string h.n.path, slV h.d, slV h.a, .int .i64 h.n.ow, .int .i32 h.n.ve, .int .i32 h.n.cr, .bool h.n.qh, .int .i64 h.n.qc, .int .i64 h.n.qb, .int .i64 h.n.si, .int .i32 h.n.st, slV h.i, slV h.p, .int .i32 h.n.co, slV h.s] 33)) 177 .nilFunc (.func (.func 155) #[] #[]) rfl (sz1 w _)
  have HB := Lib.hid hb0
  clear hb0 za zi hcf hd hpl hal hil ha hi
  unfold txV
  by_cases h1 : 1048575 < h.d.2.1
  · have d1 : decide (1048575 < (h.d.2.1 : Int)) = true := decide_eq_true (by omega)
    have HV := Lib.hid (show greatB v h.s.2.1 = true by rw [HD.out, decide_eq_true h1]; simp)
    clear h1 HD
    go_enter Tryz.func94, Tryz.ntmps94
    go_wp2_with fail
    go_ret
    exact RetB.mk HB.out HV.out.symm
  have d1 : decide (1048575 < (h.d.2.1 : Int)) = false := decide_eq_false (by omega)
  by_cases h2 : 16 < h.a.2.1
  · have d2 : decide (16 < (h.a.2.1 : Int)) = true := decide_eq_true (by omega)
    have HV := Lib.hid (show greatB v h.s.2.1 = true by rw [HD.out, decide_eq_true h2]; simp)
    clear h1 h2 HD
    go_enter Tryz.func94, Tryz.ntmps94
    go_wp2_with fail
    go_ret
    exact RetB.mk HB.out HV.out.symm
  have d2 : decide (16 < (h.a.2.1 : Int)) = false := decide_eq_false (by omega)
  by_cases h3 : 1024 < h.p.2.1
  · have d3 : decide (1024 < (h.p.2.1 : Int)) = true := decide_eq_true (by omega)
    have HV := Lib.hid (show greatB v h.s.2.1 = true by rw [HD.out, decide_eq_true h3]; simp)
    clear h1 h2 h3 HD
    go_enter Tryz.func94, Tryz.ntmps94
    go_wp2_with fail
    go_ret
    exact RetB.mk HB.out HV.out.symm
  have d3 : decide (1024 < (h.p.2.1 : Int)) = false := decide_eq_false (by omega)
  by_cases h4 : 1024 < h.s.2.1
  · have d4 : decide (1024 < (h.s.2.1 : Int)) = true := decide_eq_true (by omega)
    have HV := Lib.hid (show greatB v h.s.2.1 = true by rw [HD.out, decide_eq_true h4]; simp)
    clear h1 h2 h3 h4 HD
    go_enter Tryz.func94, Tryz.ntmps94
    go_wp2_with fail
    go_ret
    exact RetB.mk HB.out HV.out.symm
  have d4 : decide (1024 < (h.s.2.1 : Int)) = false := decide_eq_false (by omega)
  have HV := Lib.hid (show greatB v h.s.2.1 = (v.acl.any (fun a => longB a.2) || v.ids.any longB) by rw [HD.out, decide_eq_false h1, decide_eq_false h2, decide_eq_false h3, decide_eq_false h4]; rfl)
  clear h1 h2 h3 h4 HD
  generalize v.ids.any longB = bi at *
  cases hq : v.acl.any (fun a => longB a.2) with
  | true =>
    rw [hq] at HV cA
    clear hq
    go_enter Tryz.func94, Tryz.ntmps94
    go_wp2_with (go_at_call 156; refine (cA.out _ (Below.refl _ _)).mono ?_; rintro e w1 ⟨rfl, hb⟩)
    go_ret
    exact RetB.mk (HB.out.trans (hb.mono HB.out.size)) (by rw [HV.out]; rfl)
  | false =>
    rw [hq] at HV cA
    clear hq
    have zz : ((w.alloc (.cells #[.int .i32 h.n.ty, .string h.n.path, slV h.d, slV h.a, .int .i64 h.n.ow, .int .i32 h.n.ve, .int .i32 h.n.cr, .bool h.n.qh, .int .i64 h.n.qc, .int .i64 h.n.qb, .int .i64 h.n.si, .int .i32 h.n.st, slV h.i, slV h.p, .int .i32 h.n.co, slV h.s] 33)).alloc (.cells #[.func (.func 155) #[] #[]] 177)).cell? ⟨w.heap.size, 12, none⟩ = some (slV h.i) := by simp
    have ZZ := Lib.hid zz
    clear zz
    go_enter Tryz.func94, Tryz.ntmps94
    go_wp2_with (first | (go_at_call 156; refine (cA.out _ (Below.refl _ _)).mono ?_; rintro e w1 ⟨rfl, hb⟩; have y1 := keep1 HCF.out hb; have y2 := keep1 ZZ.out hb) | (go_at_call 158; refine (cI.out _ hb).mono ?_; rintro e w2 ⟨rfl, hb2⟩))
    go_ret
    exact RetB.mk (HB.out.trans ((hb.trans (hb2.mono hb.size)).mono HB.out.size)) (by rw [HV.out]; rfl)
end Go.Proofs.YthpjneobmmpbnaaGreatDoor
namespace Go.Proofs.YthpjneobmmpbnaaGreatDoor
open Go.RowKit Go.MapKept
theorem utf8_any (s : ByteArray) (hs : s.size < 2147483648) (w : World) (hE : Env w) : Calls Tryz.prog 160 #[.string s] w (RetB w (utf8B s)) :=
  (Tryz.utf8_ValidString s w (by omega) hE.tabs).mono fun _ _ h => h
theorem odd1_any (p : Int) (s t : ByteArray) (hs : s.size < 2147483648) (ht : t.size < 2147483648) (w : World) (hE : Env w) : Calls Tryz.prog 159 #[.agg #[.int .i32 p, .string s, .string t]] w (RetB w (!utf8B s || !utf8B t)) := by
  have hb0 : Below w.heap.size w (w.alloc (.cells #[.int .i32 p, .string s, .string t] 110)) := (Below.refl _ w).alloc (Nat.le_refl _) _
  have z1 : (w.alloc (.cells #[.int .i32 p, .string s, .string t] 110)).cell? ⟨w.heap.size, 2, none⟩ = some (.string t) := by simp
  have HE := Lib.hid (hE.below (Nat.le_refl _) hb0)
  have HB := Lib.hid hb0; have HZ := Lib.hid z1
  have cS := Lib.hid (fun W (hW : Env W) => utf8_any s hs W hW)
  have cT := Lib.hid (fun W (hW : Env W) => utf8_any t ht W hW)
  clear hb0 z1 hE
  cases hq : utf8B s with
  | false =>
    rw [hq] at cS
    clear hq
    go_enter Tryz.func159, Tryz.ntmps159
    go_wp2_with (go_at_call 160; refine (cS.out _ HE.out).mono ?_; rintro e w1 ⟨rfl, hb⟩)
    go_ret
    exact RetB.mk (HB.out.trans (hb.mono HB.out.size)) rfl
  | true =>
    rw [hq] at cS
    clear hq
    go_enter Tryz.func159, Tryz.ntmps159
    go_wp2_with fail
    refine (cS.out _ HE.out).mono ?_
    rintro e w1 ⟨rfl, hb⟩
    have y1 := keep1 HZ.out hb
    have HE1 := Lib.hid (HE.out.below (Nat.le_refl _) hb)
    go_wp2_with fail
    refine (cT.out _ HE1.out).mono ?_
    rintro e w2 ⟨rfl, hb2⟩
    go_wp2_with fail
    go_ret
    exact RetB.mk (HB.out.trans ((hb.trans (hb2.mono hb.size)).mono HB.out.size)) (by simp)
/-- what is read of a transaction with those of its fields that its type has -/
def keptF (v : TxF) : TxF :=
  ⟨⟨v.n.ty, if v.n.ty = 14 ∨ v.n.ty = -10 ∨ v.n.ty = -11 ∨ v.n.ty = -1 then ⟨#[]⟩ else v.n.path, if v.n.ty = 1 then v.n.ow else 0, if v.n.ty = 5 ∨ v.n.ty = 7 ∨ v.n.ty = 13 then v.n.ve else 0, if v.n.ty = 1 then v.n.cr else 0,
    if v.n.ty = 120 then v.n.qh else false, if v.n.ty = 120 then v.n.qc else 0, if v.n.ty = 120 then v.n.qb else 0, if v.n.ty = -10 then v.n.si else 0, if v.n.ty = -10 then v.n.st else 0, if v.n.ty = -1 then v.n.co else 0⟩,
    if v.n.ty = 1 ∨ v.n.ty = 5 then v.data else [], if v.n.ty = 1 ∨ v.n.ty = 7 then v.acl else [], if v.n.ty = -10 then v.ids else [], if v.n.ty = -11 then v.paths else []⟩
theorem ite_len {α : Type} (c : Prop) [Decidable c] (l : List α) (m : Nat) (h : l.length ≤ m) : (if c then l else []).length ≤ m := by
  split
  · exact h
  · simp
theorem SlR.ite {α : Type} [Inhabited α] {w : World} {R : Nat → Prop} {enc : α → List Value} {k : Nat} {h : SlC} {zs : List α} (H : SlR w R enc k h zs) (c : Prop) [Decidable c] : SlR w R enc k (if c then h else nilS) (if c then zs else []) := by
  split
  · exact H
  · exact SlR.nil_
theorem locTx.kept {w : World} {R : Nat → Prop} {h : TxH} {v : TxF} (H : locTx w R h v) : locTx w R (keptH h) (keptF v) := by
  obtain ⟨hn, h1, h2, h3, h4⟩ := H
  unfold keptH keptF
  rw [hn]
  exact ⟨rfl, h1.ite _, h2.ite _, h3.ite _, h4.ite _⟩
open Classical in
theorem spare_eq (v : TxF) (k : Nat) (hk : knownB v.n.ty = true) : spareB v k = (!decide (v = keptF v) || decide (k ≠ if v.n.ty = 14 then k else 0)) := by
  rw [Bool.eq_iff_iff, Bool.or_eq_true, Bool.not_eq_true', decide_eq_false_iff_not, decide_eq_true_iff, TxF.eq_iff, TxN.eq_iff]
  unfold spareB keptF partB
  rw [show ByteArray.empty = (⟨#[]⟩ : ByteArray) from rfl]
  simp only [Bool.or_eq_true, Bool.and_eq_true, Bool.not_eq_true', decide_eq_true_eq, decide_eq_false_iff_not]
  by_cases a0 : v.n.ty = 1
  · simp [a0]; (try grind)
  by_cases a1 : v.n.ty = 2
  · simp [a1]; (try grind)
  by_cases a2 : v.n.ty = 5
  · simp [a2]; (try grind)
  by_cases a3 : v.n.ty = 7
  · simp [a3]; (try grind)
  by_cases a4 : v.n.ty = 13
  · simp [a4]; (try grind)
  by_cases a5 : v.n.ty = 120
  · simp [a5]; (try grind)
  by_cases a6 : v.n.ty = 121
  · simp [a6]; (try grind)
  by_cases a7 : v.n.ty = 14
  · simp [a7]; (try grind)
  by_cases a8 : v.n.ty = -10
  · simp [a8]; (try grind)
  by_cases a9 : v.n.ty = -11
  · simp [a9]; (try grind)
  by_cases a10 : v.n.ty = -1
  · simp [a10]; (try grind)
  simp [knownB, partB, a0, a1, a2, a3, a4, a5, a6, a7, a8, a9, a10] at hk

def OddP (z : Int) (v : TxF) (k : Nat) (w : World) (e : Ending) (w' : World) : Prop := (∃ b, e = .returned (.bool b) ∧ b = oddB z v k) ∧ Below w.heap.size w w'
theorem OddP.mk {z : Int} {v : TxF} {k : Nat} {w w' : World} {b : Bool} (hb : Below w.heap.size w w') (h : oddB z v k = b) : OddP z v k w (.returned (.bool b)) w' := ⟨⟨b, rfl, h.symm⟩, hb⟩
/-- what the switch answers -/
noncomputable def swB (z : Int) (v : TxF) : Bool := by
  classical exact (if v.n.ty = -11 then fallB v.paths else if v.n.ty = 120 then (!v.n.qh || decide (v.n.qc < -1) || decide (v.n.qb < -1)) else if v.n.ty = -10 then (decide (v.n.si ≠ 0) || !decide (rightS (z, v.n.st, v.ids))) else if v.n.ty = -1 then decide (0 ≤ v.n.co) else false)
theorem odd_split (z : Int) (v : TxF) (k : Nat) : oddB z v k = (v.acl.any (fun a => !utf8B a.2.1 || !utf8B a.2.2) || spareB v k || swB z v) := rfl
theorem order_q (a b : ByteArray) (W : World) (q x : Nat) : Calls Tryz.prog 31 #[.string a, .string b] (W.drewN (q + x)) fun e w' => e = .returned (.int .i64 (Lib.compareBytes a.data.toList b.data.toList)) ∧ ∃ n, w' = W.drewN (q + n) :=
  (order_any a b _).mono fun _ _ h => ⟨h.1, x, h.2⟩
open Classical in
set_option maxRecDepth 100000 in
set_option maxHeartbeats 4000000 in
theorem odd_any (z : Int) (h : TxH) (v : TxF) (w : World) (R : Nat → Prop) (hv : locTx w R h v) (hE : Env w) (hkn : knownB v.n.ty = true) (hsm : TxSm 1048576 v h.s.2.1) (hwz : in64 z) : Calls Tryz.prog 95 #[txV h, .int .i64 z] w (OddP z v h.s.2.1 w) := by
  have hb0 := tx_below w h
  have hE0 := hE.below (Nat.le_refl _) hb0
  obtain ⟨q0, _, _, sa, si, sp, _, qa, qi, qp⟩ := hsm
  have za := (hv.2.2.1.sl (fun _ => by simp [encAcl])).belowMore hb0 hb0.size
  have hal := hv.2.2.1.len
  have cA := Lib.hid (containsFuncAcl_any h.a.1 h.a.2.1 h.a.2.2 159 #[] (enters_of Tryz.func159 (by kernel_rfl) rfl) v.acl (fun a => !utf8B a.2.1 || !utf8B a.2.2) _ za (by omega) (fun W k hk hbW => odd1_any _ _ _ (by have := (qa k (by omega)).2.1; omega) (by have := (qa k (by omega)).2.2; omega) W (hE0.below (Nat.le_refl _) hbW)))
  have HG0 := Lib.hid (heap_s0 w (.cells #[.int .i32 h.n.ty, .string h.n.path, slV h.d, slV h.a, .int .i64 h.n.ow, .int .i32 h.n.ve, .int .i32 h.n.cr, .bool h.n.qh, .int .i64 h.n.qc, .int .i64 h.n.qb, .int .i64 h.n.si, .int .i32 h.n.st, slV h.i, slV h.p, .int .i32 h.n.co, slV h.s] 33))
  have HB := Lib.hid hb0; have HV := Lib.hid hv; have HE0 := Lib.hid hE0
  have HO := Lib.hid (odd_split z v h.s.2.1)
  clear hb0 za hE0 hE hal
  unfold txV
  cases hq : v.acl.any (fun a => !utf8B a.2.1 || !utf8B a.2.2) with
  | true =>
    rw [hq] at cA
    have HR := Lib.hid (show oddB z v h.s.2.1 = true by rw [HO.out, hq]; rfl)
    clear hq HO
    go_enter Tryz.func95, Tryz.ntmps95
    go_wp2_with (go_at_call 156; refine cA.out.mono ?_; rintro e w1 ⟨rfl, hb⟩)
    go_ret
    exact OddP.mk (HB.out.trans (hb.mono HB.out.size)) HR.out
  | false =>
    rw [hq] at cA
    have HR := Lib.hid (show oddB z v h.s.2.1 = (spareB v h.s.2.1 || swB z v) by rw [HO.out, hq]; rfl)
    clear hq HO
    go_enter Tryz.func95, Tryz.ntmps95
    go_wp2_with fail
    refine cA.out.mono ?_
    rintro e w1 ⟨rfl, hb⟩
    have g1 := (hb.block w.heap.size (by simp)).trans HG0.out
    have HB1 := Lib.hid (HB.out.trans (hb.mono HB.out.size))
    have HX1 := Lib.hid hb
    have HG1 := Lib.hid g1
    clear hb
    go_wp2_with (first     | (apply wpList_storeTop 33 33; exact rfl; exact rfl; exact rfl; (first | (with_reducible rfl) | (exact sz1 _ _) | (exact sz2 _ _ _) | (exact sz3 _ _ _ _)); exact rfl; exact infTx; exact rfl; simp [Value.oneCell'])     | (apply wpList_loadRow 33 33; exact rfl; exact rfl; exact rfl; (first | assumption | (refine heap_under ?_; assumption) | (exact heap_s0 _ _) | (exact heap_s1 _ _ _) | (exact heap_s2 _ _ _ _) | (exact heap_s3 _ _ _ _ _) | (exact heap_under (heap_s0 _ _)) | (exact heap_under (heap_s1 _ _ _)) | (exact heap_under (heap_s2 _ _ _ _)) | (exact heap_under (heap_under (heap_s0 _ _))) | (exact heap_under (heap_under (heap_s1 _ _ _))) | (exact heap_under (heap_under (heap_under (heap_s0 _ _))))); exact undTx; exact rfl; exact infTx)     | (apply wpList_storeRow 33 33; exact rfl; exact rfl; exact rfl; exact rfl; (first | assumption | (refine heap_under ?_; assumption) | (exact heap_s0 _ _) | (exact heap_s1 _ _ _) | (exact heap_s2 _ _ _ _) | (exact heap_s3 _ _ _ _ _) | (exact heap_under (heap_s0 _ _)) | (exact heap_under (heap_s1 _ _ _)) | (exact heap_under (heap_s2 _ _ _ _)) | (exact heap_under (heap_under (heap_s0 _ _))) | (exact heap_under (heap_under (heap_s1 _ _ _))) | (exact heap_under (heap_under (heap_under (heap_s0 _ _))))); exact infTx; exact rfl; simp [Value.oneCell'])     | fail)
    refine (kept_any h w1).mono ?_
    rintro e w2 ⟨rfl, hb⟩
    have g2 := (hb.block w.heap.size (Array.getElem?_eq_some_iff.1 HG1.out).1).trans HG1.out
    have HB2 := Lib.hid (HB1.out.trans (hb.mono HB1.out.size))
    have HX2 := Lib.hid (HX1.out.trans (hb.mono HX1.out.size))
    have HG2 := Lib.hid g2
    clear hb g1 HG1
    unfold txV
    go_wp2_with (first     | (apply wpList_storeTop 33 33; exact rfl; exact rfl; exact rfl; (first | (with_reducible rfl) | (exact sz1 _ _) | (exact sz2 _ _ _) | (exact sz3 _ _ _ _)); exact rfl; exact infTx; exact rfl; simp [Value.oneCell'])     | (apply wpList_loadRow 33 33; exact rfl; exact rfl; exact rfl; (first | assumption | (refine heap_under ?_; assumption) | (exact heap_s0 _ _) | (exact heap_s1 _ _ _) | (exact heap_s2 _ _ _ _) | (exact heap_s3 _ _ _ _ _) | (exact heap_under (heap_s0 _ _)) | (exact heap_under (heap_s1 _ _ _)) | (exact heap_under (heap_s2 _ _ _ _)) | (exact heap_under (heap_under (heap_s0 _ _))) | (exact heap_under (heap_under (heap_s1 _ _ _))) | (exact heap_under (heap_under (heap_under (heap_s0 _ _))))); exact undTx; exact rfl; exact infTx)     | (apply wpList_storeRow 33 33; exact rfl; exact rfl; exact rfl; exact rfl; (first | assumption | (refine heap_under ?_; assumption) | (exact heap_s0 _ _) | (exact heap_s1 _ _ _) | (exact heap_s2 _ _ _ _) | (exact heap_s3 _ _ _ _ _) | (exact heap_under (heap_s0 _ _)) | (exact heap_under (heap_s1 _ _ _)) | (exact heap_under (heap_s2 _ _ _ _)) | (exact heap_under (heap_under (heap_s0 _ _))) | (exact heap_under (heap_under (heap_s1 _ _ _))) | (exact heap_under (heap_under (heap_under (heap_s0 _ _))))); exact infTx; exact rfl; simp [Value.oneCell'])     | fail)
    have hb3 : Below w2.heap.size w2 (w2.alloc (.cells #[.int .i32 (keptH h).n.ty, .string (keptH h).n.path, slV (keptH h).d, slV (keptH h).a, .int .i64 (keptH h).n.ow, .int .i32 (keptH h).n.ve, .int .i32 (keptH h).n.cr, .bool (keptH h).n.qh, .int .i64 (keptH h).n.qc, .int .i64 (keptH h).n.qb, .int .i64 (keptH h).n.si, .int .i32 (keptH h).n.st, slV (keptH h).i, slV (keptH h).p, .int .i32 (keptH h).n.co, slV (keptH h).s] 33)) := (Below.refl _ w2).alloc (Nat.le_refl _) _
    have HB3 := Lib.hid (HB2.out.trans (hb3.mono HB2.out.size))
    have HX3 := Lib.hid (HX2.out.trans (hb3.mono HX2.out.size))
    have HG3 := Lib.hid (heap_under (o := .cells #[.int .i32 (keptH h).n.ty, .string (keptH h).n.path, slV (keptH h).d, slV (keptH h).a, .int .i64 (keptH h).n.ow, .int .i32 (keptH h).n.ve, .int .i32 (keptH h).n.cr, .bool (keptH h).n.qh, .int .i64 (keptH h).n.qc, .int .i64 (keptH h).n.qb, .int .i64 (keptH h).n.si, .int .i32 (keptH h).n.st, slV (keptH h).i, slV (keptH h).p, .int .i32 (keptH h).n.co, slV (keptH h).s] 33) HG2.out)
    have HK3 := Lib.hid (heap_s0 w2 (.cells #[.int .i32 (keptH h).n.ty, .string (keptH h).n.path, slV (keptH h).d, slV (keptH h).a, .int .i64 (keptH h).n.ow, .int .i32 (keptH h).n.ve, .int .i32 (keptH h).n.cr, .bool (keptH h).n.qh, .int .i64 (keptH h).n.qc, .int .i64 (keptH h).n.qb, .int .i64 (keptH h).n.si, .int .i32 (keptH h).n.st, slV (keptH h).i, slV (keptH h).p, .int .i32 (keptH h).n.co, slV (keptH h).s] 33))
    have hv3 : locTx (w2.alloc (.cells #[.int .i32 (keptH h).n.ty, .string (keptH h).n.path, slV (keptH h).d, slV (keptH h).a, .int .i64 (keptH h).n.ow, .int .i32 (keptH h).n.ve, .int .i32 (keptH h).n.cr, .bool (keptH h).n.qh, .int .i64 (keptH h).n.qc, .int .i64 (keptH h).n.qb, .int .i64 (keptH h).n.si, .int .i32 (keptH h).n.st, slV (keptH h).i, slV (keptH h).p, .int .i32 (keptH h).n.co, slV (keptH h).s] 33)) (· < w.heap.size) h v := by
      have := HV.out
      refine locTx.keep (fun p hp => HB3.out.cell hp) ?_
      exact ⟨this.1, this.2.1.more (fun b hb _ => hb) (fun _ => by simp [enc8]), this.2.2.1.more (fun b hb _ => hb) (fun _ => by simp [encAcl]), this.2.2.2.1.more (fun b hb _ => hb) (fun _ => by simp [encId]), this.2.2.2.2.more (fun b hb _ => hb) (fun _ => by simp [encStr])⟩
    refine (plain_any h (keptH h) v (keptF v) _ _ _ hv3 hv3.kept 1048576 (by omega) ⟨sa, si, sp⟩ ⟨ite_len _ _ _ sa, ite_len _ _ _ si, ite_len _ _ _ sp⟩).mono ?_
    rintro e w4 ⟨rfl, hb⟩
    have g4 := (hb.block w.heap.size (Array.getElem?_eq_some_iff.1 HG3.out).1).trans HG3.out
    have k4 := (hb.block w2.heap.size (Array.getElem?_eq_some_iff.1 HK3.out).1).trans HK3.out
    have HB4 := Lib.hid (HB3.out.trans (hb.mono HB3.out.size))
    have HX4 := Lib.hid (HX3.out.trans (hb.mono HX3.out.size))
    have HS := spare_eq v h.s.2.1 hkn
    have hvn := HV.out.1
    clear hb g2 HG2 HG3 HK3 hv3
    have z0 : w4.cell? ⟨w.heap.size, 0, none⟩ = some (.int .i32 h.n.ty) := by rw [cellH g4]; rfl
    have z3 : w4.cell? ⟨w.heap.size, 3, none⟩ = some (slV h.a) := by rw [cellH g4]; rfl
    have z7 : w4.cell? ⟨w.heap.size, 7, none⟩ = some (.bool h.n.qh) := by rw [cellH g4]; rfl
    have z8 : w4.cell? ⟨w.heap.size, 8, none⟩ = some (.int .i64 h.n.qc) := by rw [cellH g4]; rfl
    have z9 : w4.cell? ⟨w.heap.size, 9, none⟩ = some (.int .i64 h.n.qb) := by rw [cellH g4]; rfl
    have z10 : w4.cell? ⟨w.heap.size, 10, none⟩ = some (.int .i64 h.n.si) := by rw [cellH g4]; rfl
    have z11 : w4.cell? ⟨w.heap.size, 11, none⟩ = some (.int .i32 h.n.st) := by rw [cellH g4]; rfl
    have z12 : w4.cell? ⟨w.heap.size, 12, none⟩ = some (slV h.i) := by rw [cellH g4]; rfl
    have z13 : w4.cell? ⟨w.heap.size, 13, none⟩ = some (slV h.p) := by rw [cellH g4]; rfl
    have z14 : w4.cell? ⟨w.heap.size, 14, none⟩ = some (.int .i32 h.n.co) := by rw [cellH g4]; rfl
    have z15 : w4.cell? ⟨w.heap.size, 15, none⟩ = some (slV h.s) := by rw [cellH g4]; rfl
    have y15 : w4.cell? ⟨w2.heap.size, 15, none⟩ = some (slV (keptH h).s) := by rw [cellH k4]; rfl
    clear g4 k4
    have hks : (keptH h).s.2.1 = if v.n.ty = 14 then h.s.2.1 else 0 := by show (if h.n.ty = 14 then h.s else nilS).2.1 = _; rw [hvn]; split <;> rfl
    cases hp : decide (v = keptF v) with
    | false =>
      have HT := Lib.hid (show oddB z v h.s.2.1 = true by rw [HR.out, HS, hp]; rfl)
      clear hp HS
      go_wp2_with fail
      go_ret
      exact OddP.mk HB4.out HT.out
    | true =>
    rw [hp, Bool.not_true, Bool.false_or, ← hks] at HS
    clear hp hks
    cases hq2 : decide (h.s.2.1 ≠ (keptH h).s.2.1) with
    | true =>
      have HT := Lib.hid (show oddB z v h.s.2.1 = true by rw [HR.out, HS, hq2]; rfl)
      have d1 : ((h.s.2.1 : Int) != ((keptH h).s.2.1 : Int)) = true := by
        have := of_decide_eq_true hq2
        exact bne_iff_ne.2 fun e => this (by omega)
      clear hq2 HS
      go_wp2_with fail
      go_ret
      exact OddP.mk HB4.out HT.out
    | false =>
    have HT := Lib.hid (show oddB z v h.s.2.1 = swB z v by rw [HR.out, HS, hq2]; rfl)
    have d1 : ((h.s.2.1 : Int) != ((keptH h).s.2.1 : Int)) = false := by
      have := of_decide_eq_false hq2
      have : h.s.2.1 = (keptH h).s.2.1 := Classical.byContradiction this
      rw [← this]; simp
    clear hq2 HS HR
    have HVN := Lib.hid hvn
    by_cases t1 : h.n.ty = -11
    · have e1 : (h.n.ty == -11) = true := by rw [t1]; rfl
      have HF := Lib.hid (show oddB z v h.s.2.1 = fallB v.paths by rw [HT.out]; unfold swB; rw [hvn, if_pos t1])
      have HZP := Lib.hid ((HV.out.2.2.2.2.sl (fun _ => by simp [encStr])).below HB4.out)
      have HPL := Lib.hid HV.out.2.2.2.2.len
      clear t1 HT hvn
      go_wp2_with fail
      go_loopw [6] (fun i wr => ∃ k q : Nat, i = .int .i64 ((k + 1 : Nat) : Int) ∧ k ≤ h.p.2.1 - 1 ∧ (∀ j, j < k → decide (0 ≤ cmpB v.paths[j]! v.paths[j + 1]!) = false) ∧ wr = w4.drewN q) (fun i _ => h.p.2.1 + 1 - (RowKit.intOf i).toNat)
      case atStart => exact ⟨0, 0, rfl, by omega, fun j hj => absurd hj (by omega), rfl⟩
      case round =>
        obtain ⟨k, q, rfl, hk, hall, rfl⟩ := hrel
        have HA := Lib.hid hall; clear hall
        by_cases hlt : k + 1 < h.p.2.1
        · obtain ⟨b, off, hA, _, x0⟩ := SlStr.at_ HZP.out (show k < h.p.2.1 by omega)
          obtain ⟨b', off', hA', _, x1⟩ := SlStr.at_ HZP.out hlt
          have z13n : w4.cell? ⟨w.heap.size, 13, none⟩ = some (.slice (some ⟨b, off, none⟩) h.p.2.1 h.p.2.2) := by rw [z13, ← hA]
          clear z13
          have hbo : b' = b ∧ off' = off := by rw [hA] at hA'; injection hA' with hA'; injection hA' with p1 p2; exact ⟨p1.symm, p2.symm⟩
          obtain ⟨rfl, rfl⟩ := hbo
          have HCO := Lib.hid (order_q v.paths[k]! v.paths[k + 1]! w4 q)
          have HN1 := Lib.hid (show decide (0 ≤ Lib.compareBytes v.paths[k]!.data.toList v.paths[k + 1]!.data.toList) = true → fallB v.paths = true from fun hh => by
            unfold fallB
            rw [List.any_eq_true]
            exact ⟨k, List.mem_range.2 (by rw [HPL.out]; omega), hh⟩)
          have HN2 := Lib.hid (show decide (0 ≤ Lib.compareBytes v.paths[k]!.data.toList v.paths[k + 1]!.data.toList) = false → ∀ j, j < k + 1 → decide (0 ≤ cmpB v.paths[j]! v.paths[j + 1]!) = false from fun hh j hj => by
            rcases Nat.lt_succ_iff_lt_or_eq.1 hj with h2 | rfl
            · exact HA.out j h2
            · exact hh)
          clear hA hA'
          have hplb : h.p.2.1 ≤ 1048576 := by have := HPL.out; omega
          have hk0 : k < h.p.2.1 := by omega
          have hI1 : 0 ≤ (k : Int) + 1 ∧ (k : Int) + 1 < (h.p.2.1 : Int) := by omega
          have hT1 : ((k : Int) + 1).toNat = k + 1 := by omega
          have hwk : IntKind.i64.wrap (k : Int) = k := by rw [IntKind.wrap_i64]; omega
          generalize v.paths[k]! = pa at *
          generalize v.paths[k + 1]! = pb at *
          generalize hPL : h.p.2.1 = pl at *
          generalize Lib.compareBytes pa.data.toList pb.data.toList = cc at *
          clear z0 z3 z7 z8 z9 z10 z11 z12 z14 z15 y15 d1 e1
          cases hcc : decide (0 ≤ cc) with
          | true =>
            have HY := Lib.hid (HN1.out hcc)
            go_wp2_with fail
            go_quiet (exact HCO.out _)
            go_wp2_with fail
            go_ret
            exact OddP.mk (drewN_below (drewN_below HB4.out _) _) (by rw [HF.out, HY.out])
          | false =>
            have HY := Lib.hid (HN2.out hcc)
            go_wp2_with fail
            go_quiet (exact HCO.out _)
            go_wp2_with fail
            go_roundw
            case rel => exact ⟨k + 1, q + nq, by go_num, by omega, HY.out, rfl⟩
            case measure => simp [RowKit.intOf]; omega
        · have HN := Lib.hid (show fallB v.paths = false by
            unfold fallB
            rw [List.any_eq_false]
            intro j hj
            have := List.mem_range.1 hj
            rw [HA.out j (by rw [HPL.out] at this; omega)]; simp)
          go_wp2_with fail
          go_ret
          exact OddP.mk (drewN_below HB4.out _) (by rw [HF.out, HN.out])
    have e1 : (h.n.ty == -11) = false := beq_eq_false_iff_ne.2 t1
    by_cases t2 : h.n.ty = 120
    · have e2 : (h.n.ty == 120) = true := by rw [t2]; rfl
      have HF := Lib.hid (show oddB z v h.s.2.1 = (!h.n.qh || decide (h.n.qc < -1) || decide (h.n.qb < -1)) by rw [HT.out]; unfold swB; rw [hvn, if_neg t1, if_pos t2])
      clear t1 t2 HT hvn
      cases hqh : h.n.qh with
      | false =>
        rw [hqh] at z7 HF
        go_wp2_with fail
        go_ret
        exact OddP.mk HB4.out (by rw [HF.out]; rfl)
      | true =>
        rw [hqh] at z7 HF
        cases hqc : decide (h.n.qc < -1) with
        | true =>
          rw [hqc] at HF
          go_wp2_with fail
          go_ret
          exact OddP.mk HB4.out (by rw [HF.out]; rfl)
        | false =>
          rw [hqc] at HF
          go_wp2_with fail
          go_ret
          exact OddP.mk HB4.out (by rw [HF.out]; rfl)
    have e2 : (h.n.ty == 120) = false := beq_eq_false_iff_ne.2 t2
    by_cases t3 : h.n.ty = -10
    · have e3 : (h.n.ty == -10) = true := by rw [t3]; rfl
      have hse : ∀ b : Bool, b = (decide (h.n.si ≠ 0) || !decide (rightS (z, h.n.st, v.ids))) → oddB z v h.s.2.1 = b := fun b hb => by
        rw [HT.out, hb]; unfold swB; rw [hvn, if_neg t1, if_neg t2, if_pos t3]
      have HF := Lib.hid hse
      have hb5 : Below w4.heap.size w4 (w4.alloc (.cells #[.int .i64 z, .int .i32 h.n.st, slV h.i] 28)) := (Below.refl _ w4).alloc (Nat.le_refl _) _
      have HB5 := Lib.hid (HB4.out.trans (hb5.mono HB4.out.size))
      have hil := HV.out.2.2.2.1.len
      have hE5 := HE0.out.below (Nat.le_refl _) ((show Below (w.alloc (.cells #[.int .i32 h.n.ty, .string h.n.path, slV h.d, slV h.a, .int .i64 h.n.ow, .int .i32 h.n.ve, .int .i32 h.n.cr, .bool h.n.qh, .int .i64 h.n.qc, .int .i64 h.n.qb, .int .i64 h.n.si, .int .i32 h.n.st, slV h.i, slV h.p, .int .i32 h.n.co, slV h.s] 33)).heap.size (w.alloc (.cells #[.int .i32 h.n.ty, .string h.n.path, slV h.d, slV h.a, .int .i64 h.n.ow, .int .i32 h.n.ve, .int .i32 h.n.cr, .bool h.n.qh, .int .i64 h.n.qc, .int .i64 h.n.qb, .int .i64 h.n.si, .int .i32 h.n.st, slV h.i, slV h.p, .int .i32 h.n.co, slV h.s] 33)) w4 from HX4.out).trans (hb5.mono HX4.out.size))
      have CR := Lib.hid (right_any z h.n.st h.i.1 h.i.2.1 h.i.2.2 v.ids _ hE5 ⟨hwz, by rw [← hvn]; exact q0.2.2.2.2.2.2.2.1, (HV.out.2.2.2.1.sl (fun _ => by simp [encId])).belowMore HB5.out HB5.out.size, HV.out.2.2.2.1.hd, (show h.i.2.1 ≤ 1048576 by omega), fun j hj => qi j (by have hj' : j < h.i.2.1 := hj; omega)⟩)
      have w10 := keep1 z10 hb5
      clear hse t1 t2 t3 HT hvn hil hE5 hb5
      cases hsi : decide (h.n.si ≠ 0) with
      | true =>
        have d5 : (h.n.si != 0) = true := by
          have := of_decide_eq_true hsi
          exact bne_iff_ne.2 this
        clear hsi
        go_wp2_with fail
        go_ret
        exact OddP.mk HB5.out (HF.out _ (by rw [bne_iff_ne] at d5; rw [decide_eq_true d5]; rfl))
      | false =>
        have d5 : (h.n.si != 0) = false := by
          have := of_decide_eq_false hsi
          have : h.n.si = 0 := Classical.byContradiction this
          rw [this]; rfl
        go_wp2_with fail
        refine CR.out.mono ?_
        rintro e w6 ⟨rfl, hb6⟩
        go_wp2_with fail
        go_ret
        exact OddP.mk (HB5.out.trans (hb6.mono HB5.out.size)) (HF.out _ (by rw [hsi]; rfl))
    have e3 : (h.n.ty == -10) = false := beq_eq_false_iff_ne.2 t3
    by_cases t4 : h.n.ty = -1
    · have e4 : (h.n.ty == -1) = true := by rw [t4]; rfl
      have HF := Lib.hid (show oddB z v h.s.2.1 = decide (0 ≤ h.n.co) by rw [HT.out]; unfold swB; rw [hvn, if_neg t1, if_neg t2, if_neg t3, if_pos t4])
      clear t1 t2 t3 t4 HT hvn
      go_wp2_with fail
      go_ret
      exact OddP.mk HB4.out HF.out
    have e4 : (h.n.ty == -1) = false := beq_eq_false_iff_ne.2 t4
    have HF := Lib.hid (show oddB z v h.s.2.1 = false by rw [HT.out]; unfold swB; rw [hvn, if_neg t1, if_neg t2, if_neg t3, if_neg t4])
    clear t1 t2 t3 t4 HT hvn
    go_wp2_with fail
    go_ret
    exact OddP.mk HB4.out HF.out
end Go.Proofs.YthpjneobmmpbnaaGreatDoor
namespace Go.Proofs.YthpjneobmmpbnaaGreatDoor
open Go.RowKit Go.MapKept
def OwnEP (z : Int) (v : TxF) (k : Nat) (w : World) (e : Ending) (w' : World) : Prop := e = .returned (.int .i64 (ownE z v k)) ∧ Below w.heap.size w w'
theorem OwnEP.mk {z : Int} {v : TxF} {k : Nat} {w w' : World} {x : Int} (hb : Below w.heap.size w w') (h : ownE z v k = x) : OwnEP z v k w (.returned (.int .i64 x)) w' := ⟨by rw [h], hb⟩
theorem locTx.down {w W : World} {R : Nat → Prop} {h : TxH} {v : TxF} (H : locTx w R h v) (hb : Below w.heap.size w W) : locTx W (· < w.heap.size) h v :=
  locTx.keep (fun p hp => hb.cell hp) ⟨H.1, H.2.1.more (fun b hb _ => hb) (fun _ => by simp [enc8]), H.2.2.1.more (fun b hb _ => hb) (fun _ => by simp [encAcl]), H.2.2.2.1.more (fun b hb _ => hb) (fun _ => by simp [encId]), H.2.2.2.2.more (fun b hb _ => hb) (fun _ => by simp [encStr])⟩
set_option maxRecDepth 100000 in
set_option maxHeartbeats 1000000 in
theorem ownE_any (z : Int) (h : TxH) (v : TxF) (w : World) (R : Nat → Prop) (hv : locTx w R h v) (hE : Env w) (hkn : knownB v.n.ty = true) (hsm : TxSm 1048576 v h.s.2.1) (hwz : in64 z) : Calls Tryz.prog 51 #[txV h, .int .i64 z] w (OwnEP z v h.s.2.1 w) := by
  have hb0 := tx_below w h
  have HN := Lib.hid (fun W (hW : Below w.heap.size w W) => named_any h v W _ (hv.down hW) (hE.below (Nat.le_refl _) hW) (by have := hsm.2.1; omega) hsm.2.2.2.2.2.1 (fun j hj => by have := hsm.2.2.2.2.2.2.2.2.2 j hj; omega))
  have HG := Lib.hid (fun W (hW : Below w.heap.size w W) => great_any h v W _ (hv.down hW) hsm.2.2.2.1 hsm.2.2.2.2.1)
  have HO := Lib.hid (fun W (hW : Below w.heap.size w W) => odd_any z h v W _ (hv.down hW) (hE.below (Nat.le_refl _) hW) hkn hsm hwz)
  have HC0 := Lib.hid (heap_s0 w (.cells #[.int .i32 h.n.ty, .string h.n.path, slV h.d, slV h.a, .int .i64 h.n.ow, .int .i32 h.n.ve, .int .i32 h.n.cr, .bool h.n.qh, .int .i64 h.n.qc, .int .i64 h.n.qb, .int .i64 h.n.si, .int .i32 h.n.st, slV h.i, slV h.p, .int .i32 h.n.co, slV h.s] 33))
  have HB := Lib.hid hb0
  have HD := Lib.hid (show ownE z v h.s.2.1 = if namedB v then 30 else if greatB v h.s.2.1 then 3 else if oddB z v h.s.2.1 then 1 else 0 from rfl)
  clear hb0 hv hE hsm
  generalize namedB v = bn at *
  generalize greatB v h.s.2.1 = bg at *
  unfold txV
  go_enter Tryz.func51, Tryz.ntmps51
  go_wp2_with (first     | (apply wpList_storeTop 33 33; exact rfl; exact rfl; exact rfl; (first | (with_reducible rfl) | (exact sz1 _ _) | (exact sz2 _ _ _) | (exact sz3 _ _ _ _)); exact rfl; exact infTx; exact rfl; simp [Value.oneCell'])     | (apply wpList_loadRow 33 33; exact rfl; exact rfl; exact rfl; (first | assumption | (refine heap_under ?_; assumption) | (exact heap_s0 _ _) | (exact heap_s1 _ _ _) | (exact heap_s2 _ _ _ _) | (exact heap_s3 _ _ _ _ _) | (exact heap_under (heap_s0 _ _)) | (exact heap_under (heap_s1 _ _ _)) | (exact heap_under (heap_s2 _ _ _ _)) | (exact heap_under (heap_under (heap_s0 _ _))) | (exact heap_under (heap_under (heap_s1 _ _ _))) | (exact heap_under (heap_under (heap_under (heap_s0 _ _))))); exact undTx; exact rfl; exact infTx)     | (apply wpList_storeRow 33 33; exact rfl; exact rfl; exact rfl; exact rfl; (first | assumption | (refine heap_under ?_; assumption) | (exact heap_s0 _ _) | (exact heap_s1 _ _ _) | (exact heap_s2 _ _ _ _) | (exact heap_s3 _ _ _ _ _) | (exact heap_under (heap_s0 _ _)) | (exact heap_under (heap_s1 _ _ _)) | (exact heap_under (heap_s2 _ _ _ _)) | (exact heap_under (heap_under (heap_s0 _ _))) | (exact heap_under (heap_under (heap_s1 _ _ _))) | (exact heap_under (heap_under (heap_under (heap_s0 _ _))))); exact infTx; exact rfl; simp [Value.oneCell'])     | fail)
  refine (HN.out _ HB.out).mono ?_
  rintro e w1 ⟨rfl, hb⟩
  have g1 := (hb.block w.heap.size (by simp)).trans HC0.out
  have HB1 := Lib.hid (HB.out.trans (hb.mono HB.out.size))
  have HG1 := Lib.hid g1
  clear hb
  cases bn with
  | true =>
    go_wp2_with fail
    go_ret
    exact OwnEP.mk HB1.out (by rw [HD.out]; rfl)
  | false =>
  go_wp2_with (first     | (apply wpList_storeTop 33 33; exact rfl; exact rfl; exact rfl; (first | (with_reducible rfl) | (exact sz1 _ _) | (exact sz2 _ _ _) | (exact sz3 _ _ _ _)); exact rfl; exact infTx; exact rfl; simp [Value.oneCell'])     | (apply wpList_loadRow 33 33; exact rfl; exact rfl; exact rfl; (first | assumption | (refine heap_under ?_; assumption) | (exact heap_s0 _ _) | (exact heap_s1 _ _ _) | (exact heap_s2 _ _ _ _) | (exact heap_s3 _ _ _ _ _) | (exact heap_under (heap_s0 _ _)) | (exact heap_under (heap_s1 _ _ _)) | (exact heap_under (heap_s2 _ _ _ _)) | (exact heap_under (heap_under (heap_s0 _ _))) | (exact heap_under (heap_under (heap_s1 _ _ _))) | (exact heap_under (heap_under (heap_under (heap_s0 _ _))))); exact undTx; exact rfl; exact infTx)     | (apply wpList_storeRow 33 33; exact rfl; exact rfl; exact rfl; exact rfl; (first | assumption | (refine heap_under ?_; assumption) | (exact heap_s0 _ _) | (exact heap_s1 _ _ _) | (exact heap_s2 _ _ _ _) | (exact heap_s3 _ _ _ _ _) | (exact heap_under (heap_s0 _ _)) | (exact heap_under (heap_s1 _ _ _)) | (exact heap_under (heap_s2 _ _ _ _)) | (exact heap_under (heap_under (heap_s0 _ _))) | (exact heap_under (heap_under (heap_s1 _ _ _))) | (exact heap_under (heap_under (heap_under (heap_s0 _ _))))); exact infTx; exact rfl; simp [Value.oneCell'])     | fail)
  refine (HG.out _ HB1.out).mono ?_
  rintro e w2 ⟨rfl, hb⟩
  have g2 := (hb.block w.heap.size (Array.getElem?_eq_some_iff.1 HG1.out).1).trans HG1.out
  have HB2 := Lib.hid (HB1.out.trans (hb.mono HB1.out.size))
  clear hb g1 HG1
  cases bg with
  | true =>
    go_wp2_with fail
    go_ret
    exact OwnEP.mk HB2.out (by rw [HD.out]; rfl)
  | false =>
  go_wp2_with (first     | (apply wpList_storeTop 33 33; exact rfl; exact rfl; exact rfl; (first | (with_reducible rfl) | (exact sz1 _ _) | (exact sz2 _ _ _) | (exact sz3 _ _ _ _)); exact rfl; exact infTx; exact rfl; simp [Value.oneCell'])     | (apply wpList_loadRow 33 33; exact rfl; exact rfl; exact rfl; (first | assumption | (refine heap_under ?_; assumption) | (exact heap_s0 _ _) | (exact heap_s1 _ _ _) | (exact heap_s2 _ _ _ _) | (exact heap_s3 _ _ _ _ _) | (exact heap_under (heap_s0 _ _)) | (exact heap_under (heap_s1 _ _ _)) | (exact heap_under (heap_s2 _ _ _ _)) | (exact heap_under (heap_under (heap_s0 _ _))) | (exact heap_under (heap_under (heap_s1 _ _ _))) | (exact heap_under (heap_under (heap_under (heap_s0 _ _))))); exact undTx; exact rfl; exact infTx)     | (apply wpList_storeRow 33 33; exact rfl; exact rfl; exact rfl; exact rfl; (first | assumption | (refine heap_under ?_; assumption) | (exact heap_s0 _ _) | (exact heap_s1 _ _ _) | (exact heap_s2 _ _ _ _) | (exact heap_s3 _ _ _ _ _) | (exact heap_under (heap_s0 _ _)) | (exact heap_under (heap_s1 _ _ _)) | (exact heap_under (heap_s2 _ _ _ _)) | (exact heap_under (heap_under (heap_s0 _ _))) | (exact heap_under (heap_under (heap_s1 _ _ _))) | (exact heap_under (heap_under (heap_under (heap_s0 _ _))))); exact infTx; exact rfl; simp [Value.oneCell'])     | fail)
  refine (HO.out _ HB2.out).mono ?_
  rintro e w3 ⟨⟨bo, rfl, hbo⟩, hb⟩
  have HB3 := Lib.hid (HB2.out.trans (hb.mono HB2.out.size))
  have HBO := Lib.hid hbo
  clear hb g2 hbo
  cases bo with
  | true =>
    go_wp2_with fail
    go_ret
    exact OwnEP.mk HB3.out (by rw [HD.out, ← HBO.out]; rfl)
  | false =>
    go_wp2_with fail
    go_ret
    exact OwnEP.mk HB3.out (by rw [HD.out, ← HBO.out]; rfl)

def RgtP (d : DlT) (w : World) (e : Ending) (w' : World) : Prop := e = .returned (.int .i64 (rightE d)) ∧ Below w.heap.size w w'
theorem RgtP.mk {d : DlT} {w w' : World} {x : Int} (hb : Below w.heap.size w w') (h : rightE d = x) : RgtP d w (.returned (.int .i64 x)) w' := ⟨by rw [h], hb⟩
theorem rangeAt_heap {w : World} {b o : Nat} {cs : Array Value} {T : TypeId} {fr : Nat × Nat} {pre mid post : List Value} (h : w.heap[b]? = some (.cells cs T fr)) (hc : cs.toList = pre ++ (mid ++ post)) (hp : pre.length = o) : w.rangeAt b o mid := fun j v hv => by
  have hj : j < mid.length := (List.getElem?_eq_some_iff.1 hv).1
  rw [cellH h, ← Array.getElem?_toList, hc, ← hp, List.getElem?_append_right (by omega), show pre.length + j - pre.length = j by omega, List.getElem?_append_left hj]
  exact hv
theorem rangeAt_below {w w' : World} {b o : Nat} {cs : List Value} (h : w.rangeAt b o cs) (hb : Below w.heap.size w w') : w'.rangeAt b o cs := fun j v hv => keep1 (h j v hv) hb
theorem subsE_step (z : Int) (l : List TxT) (k : Nat) (hk : k < l.length) : subsE z (l.drop k) = if !partB l[k]!.v.n.ty then 110 else if ownE z l[k]!.v l[k]!.subs.length ≠ 0 then ownE z l[k]!.v l[k]!.subs.length else subsE z (l.drop (k + 1)) := by
  rw [List.drop_eq_getElem_cons hk, getElem!_pos l k hk]; rfl
theorem part_known {t : Int} (h : partB t = true) : knownB t = true := by unfold knownB; rw [h]; rfl
set_option maxRecDepth 100000 in
set_option maxHeartbeats 20000000 in
theorem right13_any (h : DlH) (d : DlT) (w : World) (R : Nat → Prop) (hd : DlAt w R h d) (hE : Env w) (hsm : DlSm 1048576 d) : Calls Tryz.prog 20 #[dlV h] w (RgtP d w) := by
  obtain ⟨⟨e0, e1, e2, e3⟩, ht⟩ := hd
  obtain ⟨⟨_, _, q2, _⟩, hok⟩ := hsm
  have hl := ht.loc
  obtain ⟨L, hL, hsub⟩ := ht.subs_at
  have hn := hl.1
  have hlen := ht.len
  have hb0 : Below w.heap.size w (w.alloc (.cells #[.int .i64 h.se, .int .i32 h.xi, .int .i64 h.zx, .int .i64 h.ti, .int .i32 h.t.n.ty, .string h.t.n.path, slV h.t.d, slV h.t.a, .int .i64 h.t.n.ow, .int .i32 h.t.n.ve, .int .i32 h.t.n.cr, .bool h.t.n.qh, .int .i64 h.t.n.qc, .int .i64 h.t.n.qb, .int .i64 h.t.n.si, .int .i32 h.t.n.st, slV h.t.i, slV h.t.p, .int .i32 h.t.n.co, slV h.t.s] 35)) := (Below.refl _ w).alloc (Nat.le_refl _) _
  have hg0 := heap_s0 w (.cells #[.int .i64 h.se, .int .i32 h.xi, .int .i64 h.zx, .int .i64 h.ti, .int .i32 h.t.n.ty, .string h.t.n.path, slV h.t.d, slV h.t.a, .int .i64 h.t.n.ow, .int .i32 h.t.n.ve, .int .i32 h.t.n.cr, .bool h.t.n.qh, .int .i64 h.t.n.qc, .int .i64 h.t.n.qb, .int .i64 h.t.n.si, .int .i32 h.t.n.st, slV h.t.i, slV h.t.p, .int .i32 h.t.n.co, slV h.t.s] 35)
  have hr0 : (w.alloc (.cells #[.int .i64 h.se, .int .i32 h.xi, .int .i64 h.zx, .int .i64 h.ti, .int .i32 h.t.n.ty, .string h.t.n.path, slV h.t.d, slV h.t.a, .int .i64 h.t.n.ow, .int .i32 h.t.n.ve, .int .i32 h.t.n.cr, .bool h.t.n.qh, .int .i64 h.t.n.qc, .int .i64 h.t.n.qb, .int .i64 h.t.n.si, .int .i32 h.t.n.st, slV h.t.i, slV h.t.p, .int .i32 h.t.n.co, slV h.t.s] 35)).rangeAt w.heap.size 4 (encTx h.t) := rangeAt_heap hg0 (pre := [.int .i64 h.se, .int .i32 h.xi, .int .i64 h.zx, .int .i64 h.ti]) (post := []) rfl rfl
  have HO := Lib.hid (fun (hk : knownB d.t.v.n.ty = true) => ownE_any d.zx h.t d.t.v _ _ (hl.down hb0) (hE.below (Nat.le_refl _) hb0) hk (by have := hok.top; rw [hlen] at this; exact this) q2)
  have HS := Lib.hid (fun (W : World) (hW : Below w.heap.size w W) (k : Nat) (hk : k < h.t.s.2.1) (hp : partB d.t.subs[k]!.v.n.ty = true) => ownE_any d.zx L[k]! d.t.subs[k]!.v W _ ((hsub k hk).loc.down hW) (hE.below (Nat.le_refl _) hW) (part_known hp) (by have := (hok.subAt (j := k) (by rw [hlen]; exact hk)).top; rw [(hsub k hk).len] at this; exact this) q2)
  have HLC := Lib.hid (fun (k : Nat) (hk : k < h.t.s.2.1) => (hsub k hk).loc.1)
  have HLN := Lib.hid (fun (k : Nat) (hk : k < h.t.s.2.1) => (hsub k hk).len)
  have HL := Lib.hid hL; have HLEN := Lib.hid hlen
  have HB := Lib.hid hb0; have HN := Lib.hid hn
  have HR := Lib.hid (show rightE d = if !knownB h.t.n.ty then 110 else if h.zx < 1 then 1 else if ownE d.zx d.t.v h.t.s.2.1 ≠ 0 then ownE d.zx d.t.v h.t.s.2.1 else subsE d.zx d.t.subs by unfold rightE; rw [hn, hlen]; rw [e2])
  have HSB := Lib.hid (show h.t.s.2.1 ≤ 1048576 by have := hok.top.2.2.2.2.2.2.1; rw [hlen] at this; exact this)
  have HK := Lib.hid (fun W => known_any h.t.n.ty W)
  have z2 : (w.alloc (.cells #[.int .i64 h.se, .int .i32 h.xi, .int .i64 h.zx, .int .i64 h.ti, .int .i32 h.t.n.ty, .string h.t.n.path, slV h.t.d, slV h.t.a, .int .i64 h.t.n.ow, .int .i32 h.t.n.ve, .int .i32 h.t.n.cr, .bool h.t.n.qh, .int .i64 h.t.n.qc, .int .i64 h.t.n.qb, .int .i64 h.t.n.si, .int .i32 h.t.n.st, slV h.t.i, slV h.t.p, .int .i32 h.t.n.co, slV h.t.s] 35)).cell? ⟨w.heap.size, 2, none⟩ = some (.int .i64 h.zx) := by simp
  have z19 : (w.alloc (.cells #[.int .i64 h.se, .int .i32 h.xi, .int .i64 h.zx, .int .i64 h.ti, .int .i32 h.t.n.ty, .string h.t.n.path, slV h.t.d, slV h.t.a, .int .i64 h.t.n.ow, .int .i32 h.t.n.ve, .int .i32 h.t.n.cr, .bool h.t.n.qh, .int .i64 h.t.n.qc, .int .i64 h.t.n.qb, .int .i64 h.t.n.si, .int .i32 h.t.n.st, slV h.t.i, slV h.t.p, .int .i32 h.t.n.co, slV h.t.s] 35)).cell? ⟨w.heap.size, 19, none⟩ = some (slV h.t.s) := by simp
  have HZ2 := Lib.hid z2; have HZ19 := Lib.hid z19
  have E2 := Lib.hid e2
  clear ht hok hl hL hsub hn hlen hb0 hg0 hE z2 z19 e0 e1 e3
  rw [e2] at HO HS
  cases hkn : knownB h.t.n.ty with
  | false =>
    have HV := Lib.hid (show rightE d = 110 by rw [HR.out, hkn]; rfl)
    rw [hkn] at HK
    clear hr0 hkn
    go_enter Tryz.func20, Tryz.ntmps20
    go_wp2_with (go_at_call 50; refine (HK.out _).mono ?_; rintro e w1 ⟨rfl, rfl⟩)
    go_ret
    exact RgtP.mk HB.out HV.out
  | true =>
  rw [hkn] at HK HR
  have HO1 := Lib.hid (HO.out (by rw [HN.out]; exact hkn))
  clear hkn HO
  by_cases hz : h.zx < 1
  · have HV := Lib.hid (show rightE d = 1 by rw [HR.out, if_pos hz]; rfl)
    clear hr0
    go_enter Tryz.func20, Tryz.ntmps20
    go_wp2_with (go_at_call 50; refine (HK.out _).mono ?_; rintro e w1 ⟨rfl, rfl⟩)
    go_ret
    exact RgtP.mk HB.out HV.out
  have HV := Lib.hid (show rightE d = if ownE d.zx d.t.v h.t.s.2.1 ≠ 0 then ownE d.zx d.t.v h.t.s.2.1 else subsE d.zx d.t.subs by rw [HR.out, if_neg hz]; rfl)
  clear HR
  go_enter Tryz.func20, Tryz.ntmps20
  go_wp2_with (first | (go_at_call 50; refine (HK.out _).mono ?_; rintro e w1 ⟨rfl, rfl⟩) | (apply wpList_loadMid 33; exact rfl; exact rfl; exact rfl; assumption; exact undTx; exact rfl; exact infTx) | fail)
  refine HO1.out.mono ?_
  rintro e w1 ⟨rfl, hb⟩
  rw [← E2.out]
  have z2 := keep1 HZ2.out hb
  have z19 := keep1 HZ19.out hb
  have HB1 := Lib.hid hb
  clear hb hr0
  by_cases ho : ownE d.zx d.t.v h.t.s.2.1 = 0
  case neg =>
    have HV2 := Lib.hid (show rightE d = ownE d.zx d.t.v h.t.s.2.1 by rw [HV.out, if_pos ho])
    generalize ownE d.zx d.t.v h.t.s.2.1 = x at *
    have d1 : (x != 0) = true := bne_iff_ne.2 ho
    go_wp2_with fail
    go_ret
    exact RgtP.mk (HB.out.trans (HB1.out.mono HB.out.size)) HV2.out
  have HV2 := Lib.hid (show rightE d = subsE d.zx d.t.subs by rw [HV.out, if_neg (by simp [ho])])
  rw [ho]
  clear ho HV
  go_wp2_with fail
  go_loopw [29] (fun i wr => ∃ k : Nat, i = .int .i64 ↑k ∧ k ≤ h.t.s.2.1 ∧ subsE d.zx (d.t.subs.drop k) = subsE d.zx d.t.subs ∧ Below (w.alloc (.cells #[.int .i64 h.se, .int .i32 h.xi, .int .i64 h.zx, .int .i64 h.ti, .int .i32 h.t.n.ty, .string h.t.n.path, slV h.t.d, slV h.t.a, .int .i64 h.t.n.ow, .int .i32 h.t.n.ve, .int .i32 h.t.n.cr, .bool h.t.n.qh, .int .i64 h.t.n.qc, .int .i64 h.t.n.qb, .int .i64 h.t.n.si, .int .i32 h.t.n.st, slV h.t.i, slV h.t.p, .int .i32 h.t.n.co, slV h.t.s] 35)).heap.size (w.alloc (.cells #[.int .i64 h.se, .int .i32 h.xi, .int .i64 h.zx, .int .i64 h.ti, .int .i32 h.t.n.ty, .string h.t.n.path, slV h.t.d, slV h.t.a, .int .i64 h.t.n.ow, .int .i32 h.t.n.ve, .int .i32 h.t.n.cr, .bool h.t.n.qh, .int .i64 h.t.n.qc, .int .i64 h.t.n.qb, .int .i64 h.t.n.si, .int .i32 h.t.n.st, slV h.t.i, slV h.t.p, .int .i32 h.t.n.co, slV h.t.s] 35)) wr) (fun i _ => h.t.s.2.1 - (RowKit.intOf i).toNat)
  case atStart => exact ⟨0, rfl, Nat.zero_le _, rfl, HB1.out⟩
  case round =>
    obtain ⟨k, rfl, hk, hS, hb⟩ := hrel
    have HSS := Lib.hid hS; have HBR := Lib.hid hb
    have HBW := Lib.hid (HB.out.trans (hb.mono HB.out.size))
    clear hS
    by_cases hlt : k < h.t.s.2.1
    · have hlb := HSB.out
      obtain ⟨b, off, hA, _, hc⟩ := HL.out.2.2 (by omega)
      have hr : wr.rangeAt b (off + k * 16) (encTx L[k]!) := rangeAt_below (fun j u hu => hc k hlt j u hu) HBW.out
      have HST := Lib.hid (subsE_step d.zx d.t.subs k (by rw [HLEN.out]; exact hlt))
      have HOW := Lib.hid (HS.out (wr.alloc (.cells (encTx L[k]!).toArray 33)) (HBW.out.alloc HBW.out.size _) k hlt)
      have y2 := keep1 HZ2.out ((HBR.out.alloc HBR.out.size (.cells #[.int .i32 L[k]!.n.ty, .string L[k]!.n.path, slV L[k]!.d, slV L[k]!.a, .int .i64 L[k]!.n.ow, .int .i32 L[k]!.n.ve, .int .i32 L[k]!.n.cr, .bool L[k]!.n.qh, .int .i64 L[k]!.n.qc, .int .i64 L[k]!.n.qb, .int .i64 L[k]!.n.si, .int .i32 L[k]!.n.st, slV L[k]!.i, slV L[k]!.p, .int .i32 L[k]!.n.co, slV L[k]!.s] 33)))
      have y19 := keep1 HZ19.out hb
      have hln := HLN.out k hlt
      have hlc := HLC.out k hlt
      rw [hlc, hln] at HST
      rw [hlc] at HOW
      have hsl : slV h.t.s = .slice (some ⟨b, off, none⟩) h.t.s.2.1 h.t.s.2.2 := by rw [← hA]
      rw [hsl]
      have HSL := Lib.hid hsl
      clear hc hA hb hln hlc z2 z19 hsl
      generalize d.t.subs[k]!.v = vj at *
      generalize L[k]! = hj at *
      have g5 := heap_s0 wr (.cells #[.int .i32 hj.n.ty, .string hj.n.path, slV hj.d, slV hj.a, .int .i64 hj.n.ow, .int .i32 hj.n.ve, .int .i32 hj.n.cr, .bool hj.n.qh, .int .i64 hj.n.qc, .int .i64 hj.n.qb, .int .i64 hj.n.si, .int .i32 hj.n.st, slV hj.i, slV hj.p, .int .i32 hj.n.co, slV hj.s] 33)
      cases hpt : partB hj.n.ty with
      | false =>
        have HPT := Lib.hid (fun W => part_any hj.n.ty W)
        rw [hpt] at HST HPT
        have HX := Lib.hid (show rightE d = 110 by rw [HV2.out, ← HSS.out, HST.out]; rfl)
        clear hpt HOW
        go_wp2_with (first | (go_at_call 52; refine (HPT.out _).mono ?_; rintro e w2 ⟨rfl, rfl⟩) | (apply wpList_loadMid 33; exact rfl; exact rfl; exact rfl; assumption; exact undTx; exact rfl; exact infTx) | (apply wpList_storeTop 33 33; exact rfl; exact rfl; exact rfl; (first | (with_reducible rfl) | (exact sz1 _ _) | (exact sz2 _ _ _) | (exact sz3 _ _ _ _)); exact rfl; exact infTx; exact rfl; simp [Value.oneCell']) | fail)
        go_ret
        exact RgtP.mk (HBW.out.alloc HBW.out.size _) HX.out
      | true =>
        have HPT := Lib.hid (fun W => part_any hj.n.ty W)
        have HOX := Lib.hid (HOW.out hpt)
        rw [hpt] at HST HPT
        clear hpt HOW
        go_wp2_with (first | (go_at_call 52; refine (HPT.out _).mono ?_; rintro e w2 ⟨rfl, rfl⟩) | (apply wpList_loadMid 33; exact rfl; exact rfl; exact rfl; assumption; exact undTx; exact rfl; exact infTx) | (apply wpList_storeTop 33 33; exact rfl; exact rfl; exact rfl; (first | (with_reducible rfl) | (exact sz1 _ _) | (exact sz2 _ _ _) | (exact sz3 _ _ _ _)); exact rfl; exact infTx; exact rfl; simp [Value.oneCell']) | (apply wpList_loadRow 33 33; exact rfl; exact rfl; exact rfl; (first | assumption | (refine heap_under ?_; assumption) | (exact heap_s0 _ _) | (exact heap_s1 _ _ _) | (exact heap_s2 _ _ _ _) | (exact heap_s3 _ _ _ _ _) | (exact heap_under (heap_s0 _ _)) | (exact heap_under (heap_s1 _ _ _)) | (exact heap_under (heap_s2 _ _ _ _)) | (exact heap_under (heap_under (heap_s0 _ _))) | (exact heap_under (heap_under (heap_s1 _ _ _))) | (exact heap_under (heap_under (heap_under (heap_s0 _ _))))); exact undTx; exact rfl; exact infTx) | fail)
        refine HOX.out.mono ?_
        rintro e w5 ⟨rfl, hb5⟩
        have HE2 := Lib.hid (show ownE d.zx vj hj.s.2.1 = ownE h.zx vj hj.s.2.1 by rw [E2.out])
        rw [HE2.out] at HST
        have HB5 := Lib.hid ((HBW.out.alloc HBW.out.size (.cells (encTx hj).toArray 33)).trans (hb5.mono (HBW.out.alloc HBW.out.size (.cells (encTx hj).toArray 33)).size))
        have HB6 := Lib.hid ((HBR.out.alloc HBR.out.size (.cells (encTx hj).toArray 33)).trans (hb5.mono (HBR.out.alloc HBR.out.size (.cells (encTx hj).toArray 33)).size))
        clear hb5 HOX hr g5 y2
        by_cases ho : ownE h.zx vj hj.s.2.1 = 0
        · rw [ho]
          have HX := Lib.hid (show subsE d.zx (d.t.subs.drop (k + 1)) = subsE d.zx d.t.subs by rw [← HSS.out, HST.out, ho]; rfl)
          clear HST ho
          go_wp2_with fail
          go_roundw
          case rel => ((try rw [← HSL.out]); exact ⟨k + 1, by go_num, by omega, HX.out, HB6.out⟩)
          case measure => simp [RowKit.intOf]; omega
        · have HX := Lib.hid (show rightE d = ownE h.zx vj hj.s.2.1 by rw [HV2.out, ← HSS.out, HST.out, if_neg (by simp), if_pos ho])
          clear HST
          generalize ownE h.zx vj hj.s.2.1 = x at *
          have d1 : (x != 0) = true := bne_iff_ne.2 ho
          go_wp2_with fail
          go_ret
          exact RgtP.mk HB5.out HX.out
    · have hkn : k = h.t.s.2.1 := by omega
      have HX := Lib.hid (show rightE d = 0 by rw [HV2.out, ← HSS.out, hkn, List.drop_of_length_le (by rw [HLEN.out]; exact Nat.le_refl _)]; rfl)
      clear hkn hb
      go_wp2_with fail
      go_ret
      exact RgtP.mk HBW.out HX.out
end Go.Proofs.YthpjneobmmpbnaaGreatDoor

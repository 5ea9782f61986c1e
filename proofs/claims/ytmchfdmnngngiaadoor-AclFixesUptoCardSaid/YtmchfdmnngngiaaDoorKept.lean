/- The walk of arborlaw06.AclKept. -/
import Derived.Test.YtmchfdmnngngiaaDoorApp7
import Derived.Test.YtmchfdmnngngiaaDoorKeptP
namespace Go.Proofs.YtmchfdmnngngiaaDoor
open Go.RowKit
theorem mem_bang {α : Type} [Inhabited α] {l : List α} {x : α} (h : x ∈ l) : ∃ j, j < l.length ∧ l[j]! = x := by
  obtain ⟨j, hj, e⟩ := List.getElem_of_mem h
  exact ⟨j, hj, by rw [getElem!_pos l j hj]; exact e⟩
theorem right_size {a : AclV} (h : rightP a = true) : a.2.1.size ≤ 1048576 ∧ a.2.2.size ≤ 1048576 := by
  unfold rightP at h
  simp only [Bool.and_eq_true] at h
  exact ⟨Nat.le_trans (textOk_size h.1.1.2) (by decide), Nat.le_trans (textOk_size h.1.2) (by decide)⟩
theorem fixP_small {l : List AclV} {ids : List IdV} {o : List AclV} (h : fixP l ids = some o) (hi : ∀ x ∈ ids, x.1.size ≤ 1048576 ∧ x.2.size ≤ 1048576) : ∀ j, j < o.length → o[j]!.2.1.size ≤ 1048576 ∧ o[j]!.2.2.size ≤ 1048576 := by
  obtain ⟨h1, h2, h3⟩ := fixP_some h
  have := (fixF_inv (fun a => a.2.1.size ≤ 1048576 ∧ a.2.2.size ≤ 1048576) ids (fun a ha => right_size ha) (fun p x _ _ hx _ => hi x hx) l [] o h2 (by simp) (fun a ha => by cases ha)).2.1
  exact fun j hj => this _ (bang_mem hj)
theorem fixP_digest {l : List AclV} {ids : List IdV} {o : List AclV} (h : fixP l ids = some o) {j : Nat} (hj : j < o.length) (hr : rightP o[j]! = false) : o[j]!.2.1 = sDigest := by
  rcases (fixP_good h).2.1 _ (bang_mem hj) with h1 | h1
  · rw [hr] at h1; cases h1
  · exact h1
theorem dig_is : (sDigest.toList == [100, 105, 103, 101, 115, 116]) = true := by decide +kernel
def KeptRel (n : Nat) (w : World) (i : Value) (wr : World) : Prop := ∃ k : Nat, i = .int .i64 ↑k ∧ k ≤ n ∧ Below w.heap.size w wr
def KeptIds (ids : List IdV) (n : Nat) (w : World) (i : Value) (wr : World) : Prop := ∃ k : Nat, i = .int .i64 ↑k ∧ k ≤ n ∧ (∀ j, j < k → identP ids[j]! = true) ∧ Below w.heap.size w wr
set_option maxRecDepth 100000 in
set_option maxHeartbeats 4000000 in
theorem aclKept_any (A0 : Option Addr) (n0 c0 : Nat) (l0 : List AclV) (A1 : Option Addr) (n1 c1 : Nat) (l1 : List IdV) (A2 : Option Addr) (n2 c2 : Nat) (l2 : List IdV) (w : World) (hE : Env w) (o0 : ArgA w A0 n0 c0 l0) (o1 : ArgI w A1 n1 c1 l1) (o2 : ArgI w A2 n2 c2 l2) :
    Calls Tryd.prog 7 #[.slice A0 n0 c0, .slice A1 n1 c1, .slice A2 n2 c2] w (RetB w true) := by
  have HE := Lib.hid hE; clear hE
  have H0 := Lib.hid o0; clear o0
  have H1 := Lib.hid o1; clear o1
  have H2 := Lib.hid o2; clear o2
  obtain ⟨fo, HF⟩ : ∃ o, Hid (fixP l0 l1 = o) := ⟨_, Lib.hid rfl⟩
  go_enter Tryd.func7, Tryd.ntmps7
  go_wp2_with fail
  go_at_call 11
  refine (live_any _ HE.out).mono ?_
  rintro e w1 ⟨rfl, hb1⟩
  have HB1 := Lib.hid hb1; clear hb1
  go_wp2_with fail
  go_at_call 16
  refine (fix_any _ _ _ _ _ _ _ _ _ (HE.out.later HB1.out) (H0.out.below HB1.out).1 H0.out.n_le (H1.out.below HB1.out).1 H1.out.2.2.1 H0.out.small H1.out.small).mono ?_
  rw [HF.out]
  rintro e w2 ⟨hv2, hb2⟩
  have HB2 := Lib.hid (HB1.out.trans (hb2.mono HB1.out.size)); clear hb2
  cases fo with
  | none =>
    obtain rfl := hv2
    go_wp2_with fail
    go_at_call 18
    refine (no_any _ _).mono ?_
    rintro e w' ⟨rfl, rfl⟩
    go_wp2_with fail
    go_at_call 18
    refine (no_any _ _).mono ?_
    rintro e w' ⟨rfl, rfl⟩
    go_wp2_with fail
    go_ret
    exact RetB.mk HB2.out rfl
  | some o =>
    obtain ⟨v, rfl, hv2⟩ := hv2
    obtain ⟨A, c, rfl⟩ := own_form hv2
    have HSL := Lib.hid (Sl.of_own (zs := o) (enc := encAcl) (k := 3) (fun _ => rfl) hv2 rfl); clear hv2
    have HSM := Lib.hid (fixP_small HF.out (fun x hx => by obtain ⟨j, hj, rfl⟩ := mem_bang hx; exact H1.out.2.2.2 j (by rw [← H1.out.1.len]; exact hj)))
    have HG := Lib.hid (fixP_good HF.out)
    have HO0 : Hid (0 < o.length) := Lib.hid (Nat.pos_of_ne_zero fun e => HG.out.2.2.1 (List.length_eq_zero_iff.1 e))
    obtain ⟨m, HM⟩ : ∃ m, Hid (o.length = m) := ⟨_, Lib.hid rfl⟩
    have hm0 : ((m : Int) == 0) = false := by have := HO0.out; have := HM.out; simp; omega
    have hm1 : (0 : Int) < (m : Int) := by have := HO0.out; have := HM.out; omega
    have hm16 : m ≤ 16 := by have := HG.out.2.2.2; have := HM.out; omega
    rw [HM.out]
    go_wp2_with fail
    go_at_call 18
    refine (no_any _ _).mono ?_
    rintro e w' ⟨rfl, rfl⟩
    go_wp2_with fail
    go_loopw [9, 10] (fun i _ wr => KeptRel m w2 i wr) (fun i _ _ => m - (intOf i).toNat)
    case atStart => exact ⟨0, rfl, by omega, Below.refl _ _⟩
    case round =>
      obtain ⟨i, rfl, hi, hb⟩ := hrel
      have HB := Lib.hid hb; clear hb
      by_cases hlt : i < m
      · have HLT : Hid (i < o.length) := Lib.hid (by rw [HM.out]; exact hlt)
        go_wp2_with fail
        go_loopw [10] (fun k wr => KeptRel i w2 k wr) (fun k _ => i - (intOf k).toNat)
        case atStart => exact ⟨0, rfl, by omega, HB.out⟩
        case round =>
          obtain ⟨k, rfl, hk, hb⟩ := hrel
          have HBK := Lib.hid hb; clear hb
          have hil : ((i : Nat) : Int) < (m : Int) := by omega
          obtain ⟨b, off, hA, hbl, x0, x1, x2⟩ := SlAcl.at_ (HSL.out.belowMore HBK.out HBK.out.size) HLT.out
          subst hA
          by_cases hk2 : k < i
          · obtain ⟨b', off', hA, _, y0, y1, y2⟩ := SlAcl.at_ (HSL.out.belowMore HBK.out HBK.out.size) (Nat.lt_trans hk2 HLT.out)
            injection hA with hA
            injection hA with hA1 hA2
            subst hA1 hA2
            have hne := nodup_ne HG.out.1 hk2 HLT.out
            have hkl : ((k : Nat) : Int) < (m : Int) := by omega
            have HE2 := Lib.hid (fun W : World => (eqAcl W o[k]!.2.1 o[k]!.2.2 o[i]!.2.1 o[i]!.2.2 o[k]!.1 o[i]!.1).trans (by rw [show decide ((o[k]!.1, o[k]!.2.1, o[k]!.2.2) = (o[i]!.1, o[i]!.2.1, o[i]!.2.2)) = false from hne] : _ = Result.ok (.bool false) W))
            clear hne
            generalize o[k]! = x at *
            generalize o[i]! = y at *
            obtain ⟨p, s, t⟩ := x
            obtain ⟨p', s', t'⟩ := y
            have heq := HE2.out
            simp only at heq x0 x1 x2 y0 y1 y2
            go_wp2
            go_quiet (fail)
            go_wp2
            go_roundw
            case rel => exact ⟨k + 1, by go_num, by omega, drewN_below HBK.out _⟩
            case measure => simp [intOf]; omega
          · have hki : k = i := by omega
            subst hki
            have HSZ := Lib.hid (HSM.out k HLT.out)
            have HDG := Lib.hid (fun h : rightP o[k]! = false => fixP_digest HF.out HLT.out h)
            generalize o[k]! = y at *
            obtain ⟨p, s, t⟩ := y
            have cR := fun W (hW : Env W) => right_any p s t (Nat.le_trans HSZ.out.1 (by decide)) (Nat.le_trans HSZ.out.2 (by decide)) W hW
            cases hr : rightP (p, s, t) with
            | true =>
              rw [hr] at cR
              clear hr
              go_wp2_with fail
              go_at_call 22
              refine (cR _ ((HE.out.later HB2.out).later HBK.out)).mono ?_
              rintro e w5 ⟨rfl, hb5⟩
              have HB5 := Lib.hid (HBK.out.trans (hb5.mono HBK.out.size)); clear hb5
              go_wp2_with fail
              go_roundw
              case rel => exact ⟨k + 1, by go_num, by omega, HB5.out⟩
              case measure => simp [intOf]; omega
            | false =>
              have hs : s = sDigest := HDG.out hr
              subst hs
              rw [hr] at cR
              clear hr
              have hdig := dig_is
              go_wp2_with fail
              go_at_call 22
              refine (cR _ ((HE.out.later HB2.out).later HBK.out)).mono ?_
              rintro e w5 ⟨rfl, hb5⟩
              have z1 := keep1 x1 hb5
              have HB5 := Lib.hid (HBK.out.trans (hb5.mono HBK.out.size)); clear hb5
              clear x0 x1 x2
              go_wp2_with fail
              go_roundw
              case rel => exact ⟨k + 1, by go_num, by omega, HB5.out⟩
              case measure => simp [intOf]; omega
      · have him : m = i := by omega
        subst him
        go_wp2_with fail
        go_loopw [11] (fun j wr => KeptIds l1 n1 w2 j wr) (fun j _ => n1 - (intOf j).toNat)
        case atStart => exact ⟨0, rfl, by omega, fun j hj => absurd hj (by omega), HB.out⟩
        case round =>
          obtain ⟨j, rfl, hj, hall, hb⟩ := hrel
          have HBJ := Lib.hid hb; clear hb
          have HAJ := Lib.hid hall; clear hall
          have hn1 : n1 ≤ 1048576 := H1.out.2.2.1
          by_cases hjl : j < n1
          · have hj2 : ((j : Nat) : Int) < (n1 : Int) := by omega
            obtain ⟨b, off, hA, hbl, x0, x1⟩ := SlId.at_ ((H1.out.below HB2.out).below HBJ.out).1 hjl
            subst hA
            have HSZ := Lib.hid (H1.out.2.2.2 j hjl)
            have HN1 : Hid (identP l1[j]! = true → ∀ i, i < j + 1 → identP l1[i]! = true) := Lib.hid (fun h i hi => by rcases Nat.lt_succ_iff_lt_or_eq.1 hi with h2 | rfl; exact HAJ.out i h2; exact h)
            generalize l1[j]! = y at *
            obtain ⟨s, t⟩ := y
            have cI := fun W => refIdent_any s t (Nat.le_trans HSZ.out.2 (by decide)) W
            cases hr : identP (s, t) with
            | true =>
              rw [hr] at cI
              have HN2 := Lib.hid (HN1.out hr)
              clear hr HN1
              go_wp2_with fail
              go_at_call 23
              refine (cI _).mono ?_
              rintro e w5 ⟨rfl, hb5⟩
              have HB5 := Lib.hid (HBJ.out.trans (hb5.mono HBJ.out.size)); clear hb5
              go_wp2_with fail
              go_roundw
              case rel => exact ⟨j + 1, by go_num, by omega, HN2.out, HB5.out⟩
              case measure => simp [intOf]; omega
            | false =>
              rw [hr] at cI
              clear hr HN1
              go_wp2_with fail
              go_at_call 23
              refine (cI _).mono ?_
              rintro e w5 ⟨rfl, hb5⟩
              have HB5 := Lib.hid (HBJ.out.trans (hb5.mono HBJ.out.size)); clear hb5
              go_wp2_with fail
              go_ret
              exact RetB.mk (HB2.out.trans (HB5.out.mono HB2.out.size)) (by first | rfl | (simp; done) | (simp; omega))
          · have HI := Lib.hid (show ∀ x ∈ l1, identP x = true from fun x hx => by obtain ⟨i, hi, rfl⟩ := mem_bang hx; exact HAJ.out i (by have := H1.out.1.len; omega))
            have HR := Lib.hid (fixP_right HF.out HI.out)
            have HS := Lib.hid (fixP_self l2 HG.out.1 HR.out HG.out.2.2.1 HG.out.2.2.2)
            have HSJ := Lib.hid (HSL.out.belowMore HBJ.out HBJ.out.size)
            have HMM := HM.out
            rw [HMM] at HSJ
            go_wp2_with fail
            go_at_call 16
            refine (fix_any A _ c o _ _ _ _ _ ((HE.out.later HB2.out).later HBJ.out) HSJ.out (by omega) ((H2.out.below HB2.out).below HBJ.out).1 H2.out.2.2.1 (fun i hi => ⟨Nat.le_trans (HSM.out i (by omega)).1 (by decide), Nat.le_trans (HSM.out i (by omega)).2 (by decide)⟩) H2.out.small).mono ?_
            rw [HS.out]
            rintro e w6 ⟨⟨v, rfl, hv6⟩, hb6⟩
            obtain ⟨A6, c6, rfl⟩ := own_form hv6
            have HV6 := Lib.hid (Sl.of_own (zs := o) (enc := encAcl) (k := 3) (fun _ => rfl) hv6 rfl); clear hv6
            have HB6x := Lib.hid hb6
            have HB6 := Lib.hid (HBJ.out.trans (hb6.mono HBJ.out.size)); clear hb6
            have HR2 := Lib.hid (show ∀ i, i < o.length → rightP o[i]! = true from fun i hi => HR.out _ (bang_mem hi))
            go_wp2_with fail
            go_loopw [13] (fun j wr => KeptRel m w6 j wr) (fun j _ => m - (intOf j).toNat)
            case atStart => exact ⟨0, rfl, by omega, Below.refl _ _⟩
            case round =>
              obtain ⟨i, rfl, hi, hb⟩ := hrel
              have HBI := Lib.hid hb; clear hb
              have HZI := Lib.hid (HSJ.out.belowMore ((show Below _ _ _ from HB6x.out).trans (HBI.out.mono HB6x.out.size)) (Nat.le_trans HB6x.out.size HBI.out.size))
              by_cases hil : i < m
              · have hi2 : ((i : Nat) : Int) < (m : Int) := by omega
                obtain ⟨b, off, hA, hbl, x0, x1, x2⟩ := SlAcl.at_ HZI.out hil
                subst hA
                have HSZ := Lib.hid (HSM.out i (by omega))
                have hr := HR2.out i (by omega)
                generalize o[i]! = y at *
                obtain ⟨p, s, t⟩ := y
                have cR := fun W (hW : Env W) => right_any p s t (Nat.le_trans HSZ.out.1 (by decide)) (Nat.le_trans HSZ.out.2 (by decide)) W hW
                rw [hr] at cR
                clear hr
                go_wp2_with fail
                go_at_call 22
                refine (cR _ ((HE.out.later HB2.out).later (HB6.out.trans (HBI.out.mono HB6.out.size)))).mono ?_
                rintro e w7 ⟨rfl, hb7⟩
                have HB7 := Lib.hid (HBI.out.trans (hb7.mono HBI.out.size)); clear hb7
                go_wp2_with fail
                go_roundw
                case rel => exact ⟨i + 1, by go_num, by omega, HB7.out⟩
                case measure => simp [intOf]; omega
              · have him : m = i := by omega
                subst him
                have HV7 := Lib.hid (HV6.out.belowMore HBI.out HBI.out.size)
                rw [HMM] at HV7
                go_wp2_with fail
                go_at_call 18
                refine (no_any _ _).mono ?_
                rintro e w' ⟨rfl, rfl⟩
                go_wp2_with fail
                go_at_call 19
                refine (refSame_any _ _ _ _ _ _ o o _ _ HZI.out HV7.out (by omega) (by omega)).mono ?_
                rw [decide_eq_true rfl]
                rintro e w8 ⟨rfl, q8, rfl⟩
                go_wp2_with fail
                go_ret
                exact RetB.mk (drewN_below (HB2.out.trans ((HB6.out.trans (HBI.out.mono HB6.out.size)).mono HB2.out.size)) _) (by first | rfl | (simp; done))
end Go.Proofs.YtmchfdmnngngiaaDoor

/- The walks of acl.May, arborref06.like, arborref06.May. Condition: texts and lists below 2^31. -/
import Derived.Test.YtmchfdmnngngiaaDoorAclL
import Derived.Test.YtmchfdmnngngiaaDoorRefA6
import Derived.Lib.QuietBelow
namespace Go.Proofs.YtmchfdmnngngiaaDoor
open Go.RowKit

theorem may1_any (s t : ByteArray) (w : World) :
    Calls Tryd.prog 32 #[.agg #[.string s, .string t]] w (RetB w (decide (s = sSuper))) := by
  have f := str_super s
  cases hb : decide (s = sSuper)
  all_goals
    rw [hb] at f
    clear hb
    go_enter Tryd.func32, Tryd.ntmps32
    go_wp2
    go_ret
    exact ⟨rfl, (Below.refl _ w).alloc (Nat.le_refl _) _⟩

/-- what is asked of an entry's texts, of an identity's -/
def SmallA (l : List AclV) (n : Nat) : Prop := ∀ j, j < n → l[j]!.2.1.size ≤ 1073741824 ∧ l[j]!.2.2.size ≤ 1073741824
def SmallI (l : List IdV) (n : Nat) : Prop := ∀ j, j < n → l[j]!.1.size ≤ 1073741824 ∧ l[j]!.2.size ≤ 1073741824

set_option maxHeartbeats 1000000 in
theorem may_any (A : Option Addr) (n c : Nat) (l : List AclV) (q : Int) (A' : Option Addr) (m c' : Nat) (ids : List IdV) (w : World) (hE : Env w) (hl : Sl w w.heap.size encAcl 3 A n l) (hn : n ≤ 281474976710656) (hz : Sl w w.heap.size encId 2 A' m ids) (hm : m ≤ 281474976710656) (hsl : SmallA l n) (hsi : SmallI ids m) :
    Calls Tryd.prog 12 #[.slice A n c, .int .i32 q, .slice A' m c'] w (RetB w (mayP l q ids)) := by
  have HM := Lib.hid (show mayP l q ids = (l.isEmpty || ids.any (fun x => decide (x.1 = sSuper)) || l.any (lets q ids)) from rfl)
  have hb0 : Below w.heap.size w ((w.alloc (.cells #[.int .i32 q] 21)).alloc (.cells #[.slice A' m c'] 23)) := ((Below.refl _ w).alloc (Nat.le_refl _) _).alloc (by simp) _
  by_cases h0 : n = 0
  · have HV : Hid (mayP l q ids = true) := Lib.hid (by
      have : l = [] := List.length_eq_zero_iff.1 (by rw [hl.1, h0])
      rw [HM.out, this]; rfl)
    subst h0
    clear hl hz hsl hsi
    go_enter Tryd.func12, Tryd.ntmps12
    go_wp2
    go_ret
    exact RetB.mk hb0 HV.out.symm
  have hne : l.isEmpty = false := by
    cases l with
    | nil => exact absurd hl.1.symm h0
    | cons _ _ => rfl
  have hd : ((n : Int) == 0) = false := by simp; omega
  have c1 := fun (W : World) (hW : Below w.heap.size w W) => containsFuncId_any A' m c' 32 #[] (enters_of Tryd.func32 (by kernel_rfl) rfl) ids (fun x => decide (x.1 = sSuper)) W (hz.belowMore hW hW.size) hm (fun W2 k _ _ => may1_any ids[k]!.1 ids[k]!.2 W2)
  cases hs : ids.any (fun x => decide (x.1 = sSuper)) with
  | true =>
    have HV : Hid (mayP l q ids = true) := Lib.hid (by rw [HM.out, hs]; simp)
    rw [hs] at c1
    clear hs hl hz hsl hsi h0
    go_enter Tryd.func12, Tryd.ntmps12
    go_wp2_with fail
    refine (c1 _ hb0).mono ?_
    rintro e w1 ⟨rfl, hb1⟩
    go_wp2
    go_ret
    exact RetB.mk (hb0.trans (hb1.mono hb0.size)) HV.out.symm
  | false =>
    have HV : Hid (mayP l q ids = l.any (lets q ids)) := Lib.hid (by rw [HM.out, hs, hne]; rfl)
    rw [hs] at c1
    have c2 := fun (W : World) (bp bi : Nat) (hW : Below w.heap.size w W) (hp : W.cell? ⟨bp, 0, none⟩ = some (.int .i32 q)) (hi : W.cell? ⟨bi, 0, none⟩ = some (.slice A' m c')) =>
      containsFuncAcl_any A n c 34 #[.pointer (some ⟨bp, 0, none⟩), .pointer (some ⟨bi, 0, none⟩)] (enters_of Tryd.func34 (by kernel_rfl) rfl) l (lets q ids) W (hl.belowMore hW hW.size) hn
        (fun W2 k hk hW2 => may2_any l[k]!.1 l[k]!.2.1 l[k]!.2.2 (by have := (hsl k hk).1; omega) (by have := (hsl k hk).2; omega) q A' m c' ids bp bi W2 ((hE.later hW).later hW2) ((hz.belowMore hW hW.size).belowMore hW2 hW2.size) hm (fun j hj => by have := (hsi j hj).2; omega)
          ((hW2.cell (p := ⟨bp, 0, none⟩) (World.block_lt_of_cell? W _ hp)).trans hp) ((hW2.cell (p := ⟨bi, 0, none⟩) (World.block_lt_of_cell? W _ hi)).trans hi))
    generalize l.any (lets q ids) = b at *
    clear hs hl hz hsl hsi h0 hne HM
    go_enter Tryd.func12, Tryd.ntmps12
    go_wp2_with fail
    refine (c1 _ hb0).mono ?_
    rintro e w1 ⟨rfl, hb1⟩
    obtain ⟨hc1, hf1⟩ := bcell hb1
    have hz1 : w.heap.size + 1 < w1.heap.size := by have := hb1.size; simp at this; omega
    have hbw : Below w.heap.size w w1 := hb0.trans (hb1.mono hb0.size)
    have k1 : w1.cell? ⟨w.heap.size, 0, none⟩ = some (.int .i32 q) := by rw [hc1 _ _ (by simp; omega)]; simp
    have k2 : w1.cell? ⟨w.heap.size + 1, 0, none⟩ = some (.slice A' m c') := by rw [hc1 _ _ (by simp)]; simp
    go_wp2_with fail
    refine (c2 _ _ _ hbw k1 k2).mono ?_
    rintro e w2 ⟨rfl, hb2⟩
    go_wp2
    go_ret
    exact RetB.mk (hbw.trans (hb2.mono hbw.size)) HV.out.symm

/-- does an entry, that is right and no 'world', speak of an identity? -/
def like1 (s t : ByteArray) (x : IdV) : Bool := if s = sDigest then decide (x = (s, t)) else ipLike (netA t) (netBits t) x

set_option maxRecDepth 100000 in
set_option maxHeartbeats 1000000 in
theorem refLike_any (p : Int) (s t : ByteArray) (ht : t.size ≤ 1073741824) (s' t' : ByteArray) (ht' : t'.size ≤ 1073741824) (hok : s = sDigest ∨ (s ≠ sDigest ∧ s = sIp ∧ netOk t = true)) (w : World) :
    Calls Tryd.prog 38 #[.agg #[.int .i32 p, .string s, .string t], .agg #[.string s', .string t']] w (RetB w (like1 s t (s', t'))) := by
  have hb0 : Below w.heap.size w ((w.alloc (.cells #[.int .i32 p, .string s, .string t] 42)).alloc (.cells #[.string s', .string t'] 27)) := ((Below.refl _ w).alloc (Nat.le_refl _) _).alloc (by simp) _
  have f1 := str_digest s; have f2 := str_ip s; have f3 := str_ip s'
  rcases hok with e | ⟨e0, e, hnet⟩
  · have HV : Hid (like1 s t (s', t') = decide ((s, t) = (s', t'))) := Lib.hid (by unfold like1; rw [if_pos e]; exact decide_eq_decide.2 eq_comm)
    rw [decide_eq_true e] at f1
    have heq := fun w => eqId w s t s' t'
    clear e f2 f3
    generalize hb : decide ((s, t) = (s', t')) = b at *
    clear hb
    go_enter Tryd.func38, Tryd.ntmps38
    go_wp2
    go_ret
    exact RetB.mk hb0 HV.out.symm
  rw [decide_eq_false e0] at f1
  rw [decide_eq_true e] at f2
  have HL : Hid (like1 s t (s', t') = ipLike (netA t) (netBits t) (s', t')) := Lib.hid (by unfold like1; rw [if_neg e0])
  clear e0 e
  by_cases e3 : s' = sIp
  · rw [decide_eq_true e3] at f3
    have cN := fun W => refRange_any t (by omega) W
    unfold SameN at cN
    rw [hnet] at cN
    have cA := fun W => refAdr_any t' (by omega) W
    unfold SameA at cA
    have hra := netA_range t
    have hrb := netBits_le t
    have hrb0 : 0 ≤ netBits t := by unfold netOk at hnet; simp only [Bool.and_eq_true, decide_eq_true_eq] at hnet; exact hnet.2
    have HL2 : Hid (like1 s t (s', t') = match adr t' with | some y => decide (topB (netA t) (netBits t) = topB y (netBits t)) | none => false) := Lib.hid (by rw [HL.out]; unfold ipLike; rw [decide_eq_true e3]; rfl)
    clear e3 HL hnet
    generalize netA t = a at *
    generalize netBits t = nb at *
    cases ho : adr t' with
    | none =>
      rw [ho] at cA HL2
      clear ho
      go_enter Tryd.func38, Tryd.ntmps38
      go_wp2_with fail
      refine (cN _).mono ?_
      rintro e w1 ⟨⟨_, _, rfl, hv⟩, rfl⟩
      obtain ⟨rfl, rfl⟩ := hv trivial
      go_wp2_with fail
      refine (cA _).mono ?_
      rintro e w1 ⟨rfl, rfl⟩
      go_wp2
      go_ret
      exact RetB.mk hb0 HL2.out.symm
    | some y =>
      have hy := adr_range t' y ho
      rw [ho] at cA HL2
      clear ho
      by_cases hz : nb = 0
      · have HV : Hid (like1 s t (s', t') = true) := Lib.hid (by
          rw [HL2.out, hz]
          refine decide_eq_true ?_
          unfold topB
          rw [show ((32 : Int) - 0).toNat = 32 from rfl, Int.ediv_eq_zero_of_lt hra.1 (by omega), Int.ediv_eq_zero_of_lt hy.1 (by omega)])
        subst hz
        go_enter Tryd.func38, Tryd.ntmps38
        go_wp2_with fail
        refine (cN _).mono ?_
        rintro e w1 ⟨⟨_, _, rfl, hv⟩, rfl⟩
        obtain ⟨rfl, rfl⟩ := hv trivial
        go_wp2_with fail
        refine (cA _).mono ?_
        rintro e w1 ⟨rfl, rfl⟩
        go_wp2
        go_ret
        exact RetB.mk hb0 HV.out.symm
      · have hd : (nb == 0) = false := by simp [hz]
        clear hz
        go_enter Tryd.func38, Tryd.ntmps38
        go_wp2_with fail
        refine (cN _).mono ?_
        rintro e w1 ⟨⟨_, _, rfl, hv⟩, rfl⟩
        obtain ⟨rfl, rfl⟩ := hv trivial
        go_wp2_with fail
        refine (cA _).mono ?_
        rintro e w1 ⟨rfl, rfl⟩
        go_wp2
        go_ret
        exact RetB.mk hb0 (by rw [HL2.out]; rfl)
  · rw [decide_eq_false e3] at f3
    have HV : Hid (like1 s t (s', t') = false) := Lib.hid (by rw [HL.out]; unfold ipLike; rw [decide_eq_false e3]; rfl)
    clear e3 HL
    go_enter Tryd.func38, Tryd.ntmps38
    go_wp2
    go_ret
    exact RetB.mk hb0 HV.out.symm

/-! ### the reference's May -/
theorem likeP_any (x : IdV) (ids : List IdV) (h : x.1 ≠ sWorld) : likeP x ids = ids.any (like1 x.1 x.2) := by
  unfold likeP like1
  rw [if_neg h]
  by_cases e : x.1 = sDigest
  · rw [if_pos e]; simp only [if_pos e]
  · rw [if_neg e]; simp only [if_neg e]
def SupRel (ids : List IdV) (m : Nat) (i : Value) : Prop := ∃ k : Nat, i = .int .i64 ↑k ∧ k ≤ m ∧ (∀ j, j < k → decide (ids[j]!.1 = sSuper) = false)
def LetRel (l : List AclV) (n : Nat) (q : Int) (ids : List IdV) (w : World) (i : Value) (wr : World) : Prop := ∃ k : Nat, i = .int .i64 ↑k ∧ k ≤ n ∧ (∀ j, j < k → lets q ids l[j]! = false) ∧ Below w.heap.size w wr
def LikRel (s t : ByteArray) (ids : List IdV) (m : Nat) (w : World) (i : Value) (wr : World) : Prop := ∃ k : Nat, i = .int .i64 ↑k ∧ k ≤ m ∧ (∀ j, j < k → like1 s t ids[j]! = false) ∧ Below w.heap.size w wr

set_option maxRecDepth 100000 in
set_option maxHeartbeats 4000000 in
theorem refMay_any (A : Option Addr) (n c : Nat) (l : List AclV) (q : Int) (A' : Option Addr) (m c' : Nat) (ids : List IdV) (w : World) (hl : Sl w w.heap.size encAcl 3 A n l) (hn : n ≤ 281474976710656) (hz : Sl w w.heap.size encId 2 A' m ids) (hm : m ≤ 281474976710656) (hsl : SmallA l n) (hsi : SmallI ids m) :
    Calls Tryd.prog 21 #[.slice A n c, .int .i32 q, .slice A' m c'] w (RetB w (mayP l q ids)) := by
  have HM := Lib.hid (show mayP l q ids = (l.isEmpty || ids.any (fun x => decide (x.1 = sSuper)) || l.any (lets q ids)) from rfl)
  by_cases h0 : n = 0
  · have HV : Hid (mayP l q ids = true) := Lib.hid (by
      have : l = [] := List.length_eq_zero_iff.1 (by rw [hl.1, h0])
      rw [HM.out, this]; rfl)
    subst h0
    clear hl hz hsl hsi
    go_enter Tryd.func21, Tryd.ntmps21
    go_wp2
    go_ret
    exact RetB.mk (Below.refl _ _) HV.out.symm
  have hne : l.isEmpty = false := by
    cases l with
    | nil => exact absurd hl.1.symm h0
    | cons _ _ => rfl
  have hd : ((n : Int) == 0) = false := by simp; omega
  have HZL := Lib.hid hz.1; have HLL := Lib.hid hl.1
  have HNE := Lib.hid hne; clear hne h0
  go_enter Tryd.func21, Tryd.ntmps21
  go_wp2
  go_loop [7] (SupRel ids m) (fun i => m - (intOf i).toNat)
  case atStart => exact ⟨0, rfl, by omega, fun j hj => absurd hj (by omega)⟩
  case round =>
    obtain ⟨k, rfl, hk, hall⟩ := hrel
    have HA := Lib.hid hall; clear hall
    by_cases hlt : k < m
    · obtain ⟨b, off, rfl, _, x0, x1⟩ := SlId.at_ hz hlt
      have HS : Hid (decide (ids[k]!.1 = sSuper) = true → mayP l q ids = true) := Lib.hid (fun h => by
        rw [HM.out, any_split (fun x : IdV => decide (x.1 = sSuper)) ids k (by rw [HZL.out]; exact hlt) h]; simp)
      have HN : Hid (decide (ids[k]!.1 = sSuper) = false → ∀ j, j < k + 1 → decide (ids[j]!.1 = sSuper) = false) := Lib.hid (fun h j hj => by rcases Nat.lt_succ_iff_lt_or_eq.1 hj with h2 | rfl; exact HA.out j h2; exact h)
      have f := str_super ids[k]!.1
      generalize ids[k]! = x at *
      obtain ⟨s, t⟩ := x
      cases hb : decide (s = sSuper) with
      | true =>
        have HV := Lib.hid (HS.out hb)
        rw [hb] at f
        clear hb
        go_wp2
        go_ret
        exact RetB.mk (Below.refl _ _) HV.out.symm
      | false =>
        have HV := Lib.hid (HN.out hb)
        rw [hb] at f
        clear hb
        go_wp2
        go_round
        case rel => exact ⟨k + 1, by go_num, by omega, HV.out⟩
        case measure => simp [intOf]; omega
    · have HM2 : Hid (mayP l q ids = l.any (lets q ids)) := Lib.hid (by
        rw [HM.out, HNE.out, any_none (fun x : IdV => decide (x.1 = sSuper)) ids (fun j hj => HA.out j (by have := HZL.out; omega))]; rfl)
      clear HM HA
      go_wp2
      go_loopw [8] (LetRel l n q ids w) (fun i _ => n - (intOf i).toNat)
      case atStart => exact ⟨0, rfl, by omega, fun j hj => absurd hj (by omega), Below.refl _ _⟩
      case round =>
        obtain ⟨i, rfl, hi, hall, hbw⟩ := hrel
        have HA := Lib.hid hall; have HB := Lib.hid hbw; clear hall
        by_cases hlti : i < n
        · obtain ⟨b, off, rfl, hbl, x0, x1, x2⟩ := SlAcl.at_ (hl.below hbw) hlti
          have hsz := hsl i hlti
          have hbr : b < wr.heap.size := Nat.lt_of_lt_of_le hbl HB.out.size
          have HS : Hid (lets q ids l[i]! = true → mayP l q ids = true) := Lib.hid (fun h => by
            rw [HM2.out, any_split (lets q ids) l i (by rw [HLL.out]; exact hlti) h])
          have HN : Hid (lets q ids l[i]! = false → ∀ j, j < i + 1 → lets q ids l[j]! = false) := Lib.hid (fun h j hj => by rcases Nat.lt_succ_iff_lt_or_eq.1 hj with h2 | rfl; exact HA.out j h2; exact h)
          generalize l[i]! = x at *
          obtain ⟨p, s, t⟩ := x
          obtain ⟨hss, hst⟩ : s.size ≤ 1073741824 ∧ t.size ≤ 1073741824 := hsz
          have cR := fun W => refRight_any p s t (by omega) W
          have HLT := Lib.hid (show lets q ids (p, s, t) = (rightP (p, s, t) && hit p q && likeP (s, t) ids) from rfl)
          clear hbw
          cases hr : rightP (p, s, t) with
          | false =>
            have HV := Lib.hid (HN.out (by rw [HLT.out, hr]; rfl))
            rw [hr] at cR
            clear hr
            go_wp2_with fail
            refine (cR _).mono ?_
            rintro e w1 ⟨rfl, hb1⟩
            go_wp2
            go_roundw
            case rel => exact ⟨i + 1, by go_num, by omega, HV.out, HB.out.trans (hb1.mono HB.out.size)⟩
            case measure => simp [intOf]; omega
          | true =>
            have hok : s = sWorld ∨ s = sDigest ∨ (s ≠ sDigest ∧ s = sIp ∧ netOk t = true) := by
              rw [rightP_eq] at hr
              simp only [Bool.and_eq_true] at hr
              have h := hr.2
              by_cases e1 : s = sWorld
              · exact .inl e1
              · by_cases e2 : s = sDigest
                · exact .inr (.inl e2)
                · rw [if_neg e1, if_neg e2] at h
                  by_cases e3 : s = sIp
                  · rw [if_pos e3] at h; exact .inr (.inr ⟨e2, e3, h⟩)
                  · rw [if_neg e3] at h; cases h
            rw [hr] at cR
            have h1 := hit_bits' p q
            cases hh : hit p q with
            | false =>
              have HV := Lib.hid (HN.out (by rw [HLT.out, hh]; simp))
              rw [hh] at h1
              clear hr hok hh
              go_wp2_with fail
              refine (cR _).mono ?_
              rintro e w1 ⟨rfl, hb1⟩
              obtain ⟨hc1, hf1⟩ := bcell hb1
              go_wp2
              go_roundw
              case rel => exact ⟨i + 1, by go_num, by omega, HV.out, HB.out.trans (hb1.mono HB.out.size)⟩
              case measure => simp [intOf]; omega
            | true =>
              rw [hh] at h1
              have HLT2 : Hid (lets q ids (p, s, t) = likeP (s, t) ids) := Lib.hid (by rw [HLT.out, hr, hh]; rfl)
              have f1 := str_world s
              by_cases e1 : s = sWorld
              · have HV := Lib.hid (HS.out (by rw [HLT2.out]; unfold likeP; rw [if_pos e1]))
                rw [decide_eq_true e1] at f1
                clear hr hok hh e1
                go_wp2_with fail
                refine (cR _).mono ?_
                rintro e w1 ⟨rfl, hb1⟩
                obtain ⟨hc1, hf1⟩ := bcell hb1
                go_wp2
                go_ret
                exact RetB.mk (HB.out.trans (hb1.mono HB.out.size)) HV.out.symm
              · have HLT3 : Hid (lets q ids (p, s, t) = ids.any (like1 s t)) := Lib.hid (by rw [HLT2.out]; exact likeP_any (s, t) ids e1)
                rw [decide_eq_false e1] at f1
                have hok2 : s = sDigest ∨ (s ≠ sDigest ∧ s = sIp ∧ netOk t = true) := by rcases hok with h | h; exact absurd h e1; exact h
                have HOK := Lib.hid hok2
                clear hr hok hh e1 hok2
                go_wp2_with fail
                refine (cR _).mono ?_
                rintro e w1 ⟨rfl, hb1⟩
                obtain ⟨hc1, hf1⟩ := bcell hb1
                have hb01 : Below w.heap.size w w1 := HB.out.trans (hb1.mono HB.out.size)
                have HB01 := Lib.hid hb01
                have HC1 := Lib.hid hc1
                clear hb01
                go_wp2
                clear hc1 hf1
                go_loopw [9] (LikRel s t ids m w1) (fun i _ => m - (intOf i).toNat)
                case atStart => exact ⟨0, rfl, by omega, fun j hj => absurd hj (by omega), Below.refl _ _⟩
                case round =>
                  obtain ⟨k2, rfl, hk2, hall2, hbx⟩ := hrel
                  have HA2 := Lib.hid hall2; have HBX := Lib.hid hbx; clear hall2
                  by_cases hlt2 : k2 < m
                  · obtain ⟨b2, off2, rfl, hbl2, y0, y1⟩ := SlId.at_ (hz.below (HB01.out.trans (hbx.mono HB01.out.size))) hlt2
                    have hsz2 := hsi k2 hlt2
                    have z0 := HC1.out b (off + i * 3) hbr
                    have z1 := HC1.out b (off + i * 3 + 1) hbr
                    have z2 := HC1.out b (off + i * 3 + 2) hbr
                    rw [x0, ← hbx.cell (p := ⟨b, off + i * 3, none⟩) (Nat.lt_of_lt_of_le hbr hb1.size)] at z0
                    rw [x1, ← hbx.cell (p := ⟨b, off + i * 3 + 1, none⟩) (Nat.lt_of_lt_of_le hbr hb1.size)] at z1
                    rw [x2, ← hbx.cell (p := ⟨b, off + i * 3 + 2, none⟩) (Nat.lt_of_lt_of_le hbr hb1.size)] at z2
                    have HS2 : Hid (like1 s t ids[k2]! = true → mayP l q ids = true) := Lib.hid (fun h => HS.out (by
                      rw [HLT3.out, any_split (like1 s t) ids k2 (by rw [HZL.out]; exact hlt2) h]))
                    have HN2 : Hid (like1 s t ids[k2]! = false → ∀ j, j < k2 + 1 → like1 s t ids[j]! = false) := Lib.hid (fun h j hj => by rcases Nat.lt_succ_iff_lt_or_eq.1 hj with h2 | rfl; exact HA2.out j h2; exact h)
                    generalize ids[k2]! = y at *
                    obtain ⟨s', t'⟩ := y
                    obtain ⟨_, hst2⟩ : s'.size ≤ 1073741824 ∧ t'.size ≤ 1073741824 := hsz2
                    have CL := Lib.hid (fun (d : Nat) (os : Array Obj) => Calls.regrown_of (refLike_any p s t hst s' t' hst2 HOK.out (Go.Sort.grow (redrawn wr d) os)))
                    have D0 := fun d os => cell_regrown z0 d os
                    have D1 := fun d os => cell_regrown z1 d os
                    have D2 := fun d os => cell_regrown z2 d os
                    have E0 := fun d os => cell_regrown y0 d os
                    have E1 := fun d os => cell_regrown y1 d os
                    clear z0 z1 z2 y0 y1 x0 x1 x2 hbx
                    cases hlk : like1 s t (s', t') with
                    | true =>
                      have HV := Lib.hid (HS2.out hlk)
                      rw [hlk] at CL
                      clear hlk
                      go_wp2
                      refine wp_region_quiet_below (by kernel_rfl) (by kernel_rfl) ?_
                      repeat (go_big_quiet_step ((exact CL.out _ _)))
                      refine wpQuiet_nil ?_
                      intro _ hw'
                      obtain ⟨⟨dq, osq⟩, hw''⟩ := hw'
                      subst hw''
                      have hbf : Below w.heap.size w (Go.Sort.grow (redrawn wr dq) osq) := (HB01.out.trans (HBX.out.mono HB01.out.size)).trans ((below_regrown wr dq osq).mono (Nat.le_trans HB01.out.size HBX.out.size))
                      have HBF := Lib.hid hbf; clear hbf D0 D1 D2 E0 E1
                      go_wp2
                      go_ret
                      exact RetB.mk HBF.out HV.out.symm
                    | false =>
                      have HV := Lib.hid (HN2.out hlk)
                      rw [hlk] at CL
                      clear hlk
                      go_wp2
                      refine wp_region_quiet_below (by kernel_rfl) (by kernel_rfl) ?_
                      repeat (go_big_quiet_step ((exact CL.out _ _)))
                      refine wpQuiet_nil ?_
                      intro _ hw'
                      obtain ⟨⟨dq, osq⟩, hw''⟩ := hw'
                      subst hw''
                      have hbf : Below w1.heap.size w1 (Go.Sort.grow (redrawn wr dq) osq) := HBX.out.trans ((below_regrown wr dq osq).mono HBX.out.size)
                      have HBF := Lib.hid hbf; clear hbf D0 D1 D2 E0 E1
                      go_wp2
                      go_roundw
                      case rel => exact ⟨k2 + 1, by go_num, by omega, HV.out, HBF.out⟩
                      case measure => simp [intOf]; omega
                  · have HV := Lib.hid (HN.out (by rw [HLT3.out]; exact any_none (like1 s t) ids (fun j hj => HA2.out j (by have := HZL.out; omega))))
                    clear hbx
                    go_wp2
                    go_roundw
                    case rel => exact ⟨i + 1, by go_num, by omega, HV.out, HB01.out.trans (HBX.out.mono HB01.out.size)⟩
                    case measure => simp [intOf]; omega
        · have HV : Hid (mayP l q ids = false) := Lib.hid (by rw [HM2.out, any_none (lets q ids) l (fun j hj => HA.out j (by have := HLL.out; omega))])
          go_wp2
          go_ret
          exact RetB.mk HB.out HV.out.symm
end Go.Proofs.YtmchfdmnngngiaaDoor

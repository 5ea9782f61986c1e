/- The walk of acl.Fix. Condition: at most 2^20 identities, texts below 2^30. -/
import Derived.Test.YtibklpbnjpefnaaGreatDoorAclM
import Derived.Test.YtibklpbnjpefnaaGreatDoorRefM
namespace Go.Proofs.YtibklpbnjpefnaaGreatDoor
open Go.RowKit

def FixPost (w : World) (base : Nat) (o : Option (List AclV)) (e : Ending) (w' : World) : Prop :=
  (match o with
    | none => e = .returned (.tuple #[.slice none 0 0, .int .i64 60])
    | some o => ∃ v, e = .returned (.tuple #[v, .int .i64 0]) ∧ w'.ownsRow base 71 3 v o.length (o.flatMap encAcl)) ∧ Below base w w'
theorem FixPost.no {w w' : World} {base : Nat} {o : Option (List AclV)} (h : o = none) (hb : Below base w w') : FixPost w base o (.returned (.tuple #[.slice none 0 0, .int .i64 60])) w' := by subst h; exact ⟨rfl, hb⟩
theorem FixPost.yes {w w' : World} {base : Nat} {o : Option (List AclV)} {out : List AclV} {v : Value} (h : o = some out) (hv : w'.ownsRow base 71 3 v out.length (out.flatMap encAcl)) (hb : Below base w w') : FixPost w base o (.returned (.tuple #[v, .int .i64 0])) w' := by subst h; exact ⟨⟨v, rfl, hv⟩, hb⟩
theorem fixF_drop (ids : List IdV) (out : List AclV) (l : List AclV) (k : Nat) (h : k < l.length) : fixF ids out (l.drop k) = match fixStep ids out l[k]! with | none => none | some o => fixF ids o (l.drop (k + 1)) := by
  rw [List.drop_eq_getElem_cons h, getElem!_pos l k h]; rfl
theorem fixF_end (ids : List IdV) (out : List AclV) (l : List AclV) (k : Nat) (h : l.length ≤ k) : fixF ids out (l.drop k) = some out := by
  rw [List.drop_of_length_le h]; rfl
theorem putP_len (l : List AclV) (a : AclV) : (putP l a).length ≤ l.length + 1 := by unfold putP; split <;> simp
def FixRel (l : List AclV) (ids : List IdV) (m : Nat) (w : World) (i : Value) (wr : World) : Prop := ∃ (k : Nat) (v : Value) (out : List AclV), i = .int .i64 ↑k ∧ k ≤ l.length ∧ fixF ids [] l = fixF ids out (l.drop k) ∧ out.length ≤ k * (m + 1) ∧
  ListIs wr w.heap.size (w.heap.size + 1) w.heap.size v out ∧ Below w.heap.size w wr
def idFold (p : Int) (out : List AclV) (ids : List IdV) (k : Nat) : List AclV := (ids.take k).foldl (idStep p) out
def hasD (ids : List IdV) (k : Nat) : Bool := (ids.take k).any (fun x => decide (x.1 = sDigest))
theorem idFold_succ (p : Int) (out : List AclV) (ids : List IdV) (k : Nat) (h : k < ids.length) : idFold p out ids (k + 1) = idStep p (idFold p out ids k) ids[k]! := by
  unfold idFold
  rw [List.take_succ_eq_append_getElem h, List.foldl_append, getElem!_pos ids k h]; rfl
theorem hasD_succ (ids : List IdV) (k : Nat) (h : k < ids.length) : hasD ids (k + 1) = (hasD ids k || decide (ids[k]!.1 = sDigest)) := by
  unfold hasD
  rw [List.take_succ_eq_append_getElem h, List.any_append, getElem!_pos ids k h]; simp
theorem idFold_len (p : Int) (out : List AclV) (ids : List IdV) : ∀ k, (idFold p out ids k).length ≤ out.length + k := by
  intro k
  have : ∀ (xs : List IdV) (o : List AclV), (xs.foldl (idStep p) o).length ≤ o.length + xs.length := by
    intro xs
    induction xs with
    | nil => intro o; simp
    | cons x r ih =>
      intro o
      rw [List.foldl_cons]
      have h1 := ih (idStep p o x)
      have h2 : (idStep p o x).length ≤ o.length + 1 := by unfold idStep; split; exact putP_len _ _; omega
      simp only [List.length_cons]; omega
  have h := this (ids.take k) out
  unfold idFold
  have := List.length_take_le k ids
  omega
def InFix (ids : List IdV) (m : Nat) (p : Int) (out : List AclV) (w w0 : World) (s i : Value) (wr : World) : Prop := ∃ (k : Nat) (v : Value), i = .int .i64 ↑k ∧ k ≤ m ∧ s = .bool (hasD ids k) ∧
  ListIs wr w.heap.size (w.heap.size + 1) w.heap.size v (idFold p out ids k) ∧ Below w.heap.size w wr ∧ wr.cell? ⟨w0.heap.size, 0, none⟩ = some (.int .i32 p) ∧ w0.heap.size < wr.heap.size ∧ v.ownBlock ≠ some w0.heap.size

theorem list_made (w : World) (base : Nat) (hB : base ≤ w.heap.size) : ListIs ((w.alloc (.map #[] 0)).alloc (.cells #[.slice none 0 0, .map (some w.heap.size)] 123)) base (w.heap.size + 1) w.heap.size (.slice none 0 0) [] := by
  refine ⟨?_, ⟨by simp, .inl ⟨rfl, rfl⟩⟩, ⟨[], (MapV.made w _ _).alloc _, rfl⟩, by omega, hB⟩
  have e : (w.alloc (.map #[] 0)).heap.size = w.heap.size + 1 := by simp
  rw [← e]; exact (MapKept.heap_alloc _ _).1
theorem okKey_of {p : Int} {s t : ByteArray} (h0 : 0 ≤ p) (h1 : p ≤ 31) (hs : s.size ≤ 1073741824) (ht : t.size ≤ 1073741824) : okKey (p, s, t) := ⟨by show -2147483648 ≤ p; omega, by show p ≤ 2147483647; omega, hs, ht⟩
theorem rightP_perm {p : Int} {s t : ByteArray} (h : rightP (p, s, t) = true) : 0 ≤ p ∧ p ≤ 31 := by
  rw [rightP_eq] at h
  simp only [Bool.and_eq_true, decide_eq_true_eq] at h
  exact h.1

set_option maxRecDepth 100000 in
set_option maxHeartbeats 4000000 in
theorem fix_any (A : Option Addr) (n c : Nat) (l : List AclV) (A' : Option Addr) (m c' : Nat) (ids : List IdV) (w : World) (hE : Env w) (hl : Sl w w.heap.size encAcl 3 A n l) (hn : n ≤ 281474976710656) (hz : Sl w w.heap.size encId 2 A' m ids) (hm : m ≤ 1048576) (hsl : SmallA l n) (hsi : SmallI ids m) :
    Calls Tryz.prog 45 #[.slice A n c, .slice A' m c'] w (FixPost w w.heap.size (fixP l ids)) := by
  have HF := Lib.hid (show fixP l ids = if l.length = 0 ∨ 16 < l.length then none else match fixF ids [] l with | none => none | some o => if 16 < o.length then none else some o from rfl)
  have hlen := hl.1
  by_cases h0 : n = 0
  · have HV : Hid (fixP l ids = none) := Lib.hid (by rw [HF.out, if_pos (.inl (by omega))])
    have hd : ((n : Int) == 0) = true := by simp; omega
    clear h0
    go_enter Tryz.func45, Tryz.ntmps45
    go_wp2
    go_ret2
    exact FixPost.no HV.out (Below.refl _ _)
  have hd : ((n : Int) == 0) = false := by simp; omega
  by_cases h16 : 16 < n
  · have HV : Hid (fixP l ids = none) := Lib.hid (by rw [HF.out, if_pos (.inr (by omega))])
    clear h0
    go_enter Tryz.func45, Tryz.ntmps45
    go_wp2
    go_ret2
    exact FixPost.no HV.out (Below.refl _ _)
  have HF2 : Hid (fixP l ids = match fixF ids [] (l.drop 0) with | none => none | some o => if 16 < o.length then none else some o) := Lib.hid (by rw [HF.out, if_neg (by omega), List.drop_zero])
  have h16' : n ≤ 16 := by omega
  have HLL := Lib.hid hlen
  clear h0 h16 HF hlen
  have hmm := @run_makeMap Tryz.prog
  go_enter Tryz.func45, Tryz.ntmps45
  go_wp2
  go_loopw [25] (FixRel l ids m w) (fun i _ => n - (intOf i).toNat)
  case atStart => exact ⟨0, .slice none 0 0, [], rfl, by omega, by rw [List.drop_zero], by simp, list_made w _ (Nat.le_refl _), ((Below.refl _ w).alloc (Nat.le_refl _) _).alloc (by simp) _⟩
  case round =>
    obtain ⟨k, v, out, rfl, hk, hF, hol, hL, hbw⟩ := hrel
    have HF := Lib.hid hF; have HL := Lib.hid hL; have HB := Lib.hid hbw
    clear hF hL
    by_cases hlt : k < n
    · obtain ⟨b, off, rfl, hbl, x0, x1, x2⟩ := SlAcl.at_ (hl.below hbw) hlt
      have hsz := hsl k hlt
      have hD := fixF_drop ids out l k (by rw [HLL.out]; exact hlt)
      have HD := Lib.hid hD
      clear hbw hD
      generalize l[k]! = x at *
      obtain ⟨p, s, t⟩ := x
      obtain ⟨hss, hst⟩ : s.size ≤ 1073741824 ∧ t.size ≤ 1073741824 := hsz
      have hol2 : out.length ≤ 16 * (1048576 + 1) := by
        have : k * (m + 1) ≤ 16 * (1048576 + 1) := Nat.mul_le_mul (by omega) (by omega)
        omega
      have hbwS : w.heap.size ≤ wr.heap.size := HB.out.size
      have hb1 : Below wr.heap.size wr (wr.alloc (.cells #[.int .i32 p, .string s, .string t] 71)) := (Below.refl _ wr).alloc (Nat.le_refl _) _
      have cR := fun (W : World) (hW : Below w.heap.size w W) => right_any p s t (by omega) (by omega) W (hE.later hW)
      have hb2 : Below w.heap.size w (wr.alloc (.cells #[.int .i32 p, .string s, .string t] 71)) := HB.out.trans (hb1.mono HB.out.size)
      cases hr : rightP (p, s, t) with
      | true =>
        obtain ⟨hp0, hp1⟩ := rightP_perm hr
        have HS : Hid (fixF ids [] l = fixF ids (putP out (p, s, t)) (l.drop (k + 1))) := Lib.hid (by
          rw [HF.out, HD.out]; unfold fixStep; rw [hr]; rfl)
        have HPL := Lib.hid (putP_len out (p, s, t))
        rw [hr] at cR
        clear hr
        go_wp2_with fail
        refine (cR _ hb2).mono ?_
        rintro e w1 ⟨rfl, hb3⟩
        obtain ⟨hc3, hf3⟩ := bcell hb3
        have hz3 : wr.heap.size < w1.heap.size := by have := hb3.size; simp at this; omega
        have hL1 : ListIs w1 w.heap.size (w.heap.size + 1) w.heap.size v out := (HL.out.below hb1).below hb3
        have cP := put_any w.heap.size (w.heap.size + 1) w.heap.size v out p s t w1 hL1 (okKey_of hp0 hp1 hss hst) (by omega) (by omega)
        have hb4 : Below w.heap.size w w1 := hb2.trans (hb3.mono hb2.size)
        clear hL1
        go_wp2_with fail
        refine cP.mono ?_
        rintro e w2 ⟨rfl, ⟨v', hL2, _⟩, hb5, _⟩
        have HL2 := Lib.hid hL2; clear hL2
        go_wp2
        go_roundw
        case rel => exact ⟨k + 1, v', putP out (p, s, t), by go_num, by have := HLL.out; omega, HS.out, by have := HPL.out; rw [Nat.succ_mul]; omega, HL2.out, hb4.trans hb5⟩
        case measure => simp [intOf]; omega
      | false =>
        rw [hr] at cR
        cases ha : authP (p, s, t) with
        | false =>
          have HV : Hid (fixP l ids = none) := Lib.hid (by
            rw [HF2.out, List.drop_zero, HF.out, HD.out]; unfold fixStep; rw [hr, ha]; rfl)
          have ha2 : (decide ((s, t) = (sAuth, ByteArray.empty)) && decide (0 ≤ p) && decide (p ≤ 31)) = false := ha
          clear hr ha
          by_cases es : s = sAuth
          · have es1 : s.toList = [97, 117, 116, 104] := by rw [es]; decide +kernel
            by_cases et : t = ByteArray.empty
            · have et1 : t.toList = [] := by rw [et, ByteArray.toList_eq]; rfl
              rw [es, et] at ha2
              have hor : p < 0 ∨ (0 ≤ p ∧ 31 < p) := by simp at ha2; omega
              clear ha2 es et
              rcases hor with h3 | ⟨h3, h4⟩
              all_goals
                go_wp2_with fail
                refine (cR _ hb2).mono ?_
                rintro e w1 ⟨rfl, hb3⟩
                obtain ⟨hc3, hf3⟩ := bcell hb3
                have hz3 : wr.heap.size < w1.heap.size := by have := hb3.size; simp at this; omega
                go_wp2
                go_ret2
                exact FixPost.no HV.out (hb2.trans (hb3.mono hb2.size))
            · have et1 : ¬ t.toList = [] := fun h => et (bytes_ext (by rw [h, ByteArray.toList_eq]; rfl))
              clear ha2 es et
              go_wp2_with fail
              refine (cR _ hb2).mono ?_
              rintro e w1 ⟨rfl, hb3⟩
              obtain ⟨hc3, hf3⟩ := bcell hb3
              have hz3 : wr.heap.size < w1.heap.size := by have := hb3.size; simp at this; omega
              go_wp2
              go_ret2
              exact FixPost.no HV.out (hb2.trans (hb3.mono hb2.size))
          · have es1 : ¬ s.toList = [97, 117, 116, 104] := fun h => es (bytes_ext (by rw [h]; decide +kernel))
            clear ha2 es
            go_wp2_with fail
            refine (cR _ hb2).mono ?_
            rintro e w1 ⟨rfl, hb3⟩
            obtain ⟨hc3, hf3⟩ := bcell hb3
            have hz3 : wr.heap.size < w1.heap.size := by have := hb3.size; simp at this; omega
            go_wp2
            go_ret2
            exact FixPost.no HV.out (hb2.trans (hb3.mono hb2.size))
        | true =>
          have ha2 : (decide ((s, t) = (sAuth, ByteArray.empty)) && decide (0 ≤ p) && decide (p ≤ 31)) = true := ha
          simp only [Bool.and_eq_true, decide_eq_true_eq, Prod.mk.injEq] at ha2
          obtain ⟨⟨⟨es, et⟩, hp0⟩, hp1⟩ := ha2
          have es1 : s.toList = [97, 117, 116, 104] := by rw [es]; decide +kernel
          have et1 : t.toList = [] := by rw [et, ByteArray.toList_eq]; rfl
          have hzl := hz.1
          have HST : Hid (fixF ids [] l = if hasD ids m then fixF ids (idFold p out ids m) (l.drop (k + 1)) else none) := Lib.hid (by
            rw [HF.out, HD.out]; unfold fixStep
            rw [hr, ha]
            have e1 : hasD ids m = ids.any (fun x => decide (x.1 = sDigest)) := by unfold hasD; rw [List.take_of_length_le (by omega)]
            have e2 : idFold p out ids m = ids.foldl (idStep p) out := by unfold idFold; rw [List.take_of_length_le (by omega)]
            rw [e1, e2]
            cases ids.any (fun x => decide (x.1 = sDigest)) <;> rfl)
          have HZL := Lib.hid hzl
          clear ha es et hr hzl
          go_wp2_with fail
          refine (cR _ hb2).mono ?_
          rintro e w1 ⟨rfl, hb3⟩
          obtain ⟨hc3, hf3⟩ := bcell hb3
          have hz3 : wr.heap.size < w1.heap.size := by have := hb3.size; simp at this; omega
          have hL1 : ListIs w1 w.heap.size (w.heap.size + 1) w.heap.size v out := (HL.out.below hb1).below hb3
          have hb4 : Below w.heap.size w w1 := hb2.trans (hb3.mono hb2.size)
          have hcp : w1.cell? ⟨wr.heap.size, 0, none⟩ = some (.int .i32 p) := by rw [hc3 _ _ (by simp)]; simp
          go_wp2
          clear hc3 hf3
          have HNO : Hid (v.ownBlock ≠ some wr.heap.size) := Lib.hid (fun e => by
            rcases HL.out.own.2 with ⟨e2, _⟩ | ⟨g, cap, cur, e2, _, hh, _⟩
            · rw [e2] at e; cases e
            · rw [e2] at e
              have : g = wr.heap.size := by simpa [Value.ownBlock] using e
              have := (Array.getElem?_eq_some_iff.1 hh).1
              omega)
          have HL1 := Lib.hid hL1; have HB4 := Lib.hid hb4; have HCP := Lib.hid hcp
          clear hL1 hb4 hcp
          obtain ⟨wo, rfl⟩ : ∃ wo : World, wo = wr := ⟨_, rfl⟩
          go_loopw [9, 52] (InFix ids m p out w wo) (fun _ i _ => m - (intOf i).toNat)
          case atStart => exact ⟨0, v, rfl, by omega, rfl, HL1.out, HB4.out, HCP.out, hz3, HNO.out⟩
          case round =>
            obtain ⟨k2, v2, rfl, hk2, rfl, hL2, hbx, hcx, hzx, hnx⟩ := hrel
            have HLX := Lib.hid hL2; have HBX := Lib.hid hbx
            clear hL2
            by_cases hlt2 : k2 < m
            · obtain ⟨b2, off2, rfl, hbl2, y0, y1⟩ := SlId.at_ (hz.below hbx) hlt2
              have hsz2 := hsi k2 hlt2
              have HI := Lib.hid (idFold_succ p out ids k2 (by rw [HZL.out]; exact hlt2))
              have HH := Lib.hid (hasD_succ ids k2 (by rw [HZL.out]; exact hlt2))
              have HIL := Lib.hid (idFold_len p out ids k2)
              clear hbx
              generalize ids[k2]! = y at *
              obtain ⟨s', t'⟩ := y
              obtain ⟨hs2, ht2⟩ : s'.size ≤ 1073741824 ∧ t'.size ≤ 1073741824 := hsz2
              have f := str_digest s'
              have hb5 : Below wr.heap.size wr (wr.alloc (.cells #[.string s', .string t'] 69)) := (Below.refl _ wr).alloc (Nat.le_refl _) _
              cases hq : decide (s' = sDigest) with
              | true =>
                have HS2 : Hid (idFold p out ids (k2 + 1) = putP (idFold p out ids k2) (p, s', t')) := Lib.hid (by rw [HI.out]; unfold idStep; rw [if_pos (of_decide_eq_true hq)])
                have HT2 : Hid (hasD ids (k2 + 1) = true) := Lib.hid (by rw [HH.out, hq]; simp)
                rw [hq] at f
                clear hq
                have hbx2 : Below w.heap.size w (wr.alloc (.cells #[.string s', .string t'] 69)) := HBX.out.trans (hb5.mono HBX.out.size)
                have cP := put_any w.heap.size (w.heap.size + 1) w.heap.size v2 (idFold p out ids k2) p s' t' _ (HLX.out.below hb5) (okKey_of hp0 hp1 hs2 ht2) (by have := HIL.out; omega) hbx2.size
                have HBX2 := Lib.hid hbx2; clear hbx2
                go_wp2_with fail
                refine cP.mono ?_
                rintro e w2 ⟨rfl, ⟨v', hL2, hvb⟩, hb6, hfr⟩
                have hlo := HLX.out.lo
                have hbg : w.heap.size + 1 < wo.heap.size := (Array.getElem?_eq_some_iff.1 HL.out.cells).1
                have hcy : w2.cell? ⟨wo.heap.size, 0, none⟩ = some (.int .i32 p) :=
                  (World.cell?_of_block (a := ⟨wo.heap.size, 0, none⟩) (hfr wo.heap.size (by simp; omega) (by omega) (by omega) hnx)).trans ((World.cell?_alloc_past _ _ _ hzx).trans hcx)
                have hzy : wo.heap.size < w2.heap.size := by have := hb6.size; simp at this; omega
                have hny : v'.ownBlock ≠ some wo.heap.size := by
                  rcases hvb with e | ⟨g, hg, e⟩
                  · rw [e]; exact hnx
                  · rw [e]; intro h; injection h with h; simp at hg; omega
                have HL2 := Lib.hid hL2; have HB6 := Lib.hid hb6; have HCY := Lib.hid hcy; have HNY := Lib.hid hny
                clear hL2 hb6 hcy hfr hvb hny
                go_wp2
                go_roundw
                case rel => exact ⟨k2 + 1, v', by go_num, by omega, by rw [HT2.out], by rw [HS2.out]; exact HL2.out, HBX2.out.trans HB6.out, HCY.out, hzy, HNY.out⟩
                case measure => simp [intOf]; omega
              | false =>
                have HS2 : Hid (idFold p out ids (k2 + 1) = idFold p out ids k2) := Lib.hid (by rw [HI.out]; unfold idStep; rw [if_neg (of_decide_eq_false hq)])
                have HT2 : Hid (hasD ids (k2 + 1) = hasD ids k2) := Lib.hid (by rw [HH.out, hq]; simp)
                rw [hq] at f
                clear hq
                go_wp2
                go_roundw
                case rel => exact ⟨k2 + 1, v2, by go_num, by omega, by rw [HT2.out], by rw [HS2.out]; exact HLX.out.below hb5, HBX.out.trans (hb5.mono HBX.out.size), (World.cell?_alloc_past _ _ _ hzx).trans hcx, by simp; omega, hnx⟩
                case measure => simp [intOf]; omega
            · obtain rfl : k2 = m := by omega
              have HIL := Lib.hid (idFold_len p out ids k2)
              clear hbx hcx
              cases hq : hasD ids k2 with
              | true =>
                have HV : Hid (fixF ids [] l = fixF ids (idFold p out ids k2) (l.drop (k + 1))) := Lib.hid (by rw [HST.out, hq]; rfl)
                clear hq
                go_wp2
                go_roundw
                case rel => exact ⟨k + 1, v2, idFold p out ids k2, by go_num, by have := HLL.out; omega, HV.out, by have := HIL.out; rw [Nat.succ_mul]; omega, HLX.out, HBX.out⟩
                case measure => simp [intOf]; omega
              | false =>
                have HV : Hid (fixP l ids = none) := Lib.hid (by rw [HF2.out, List.drop_zero, HST.out, hq]; rfl)
                clear hq
                go_wp2
                go_ret2
                exact FixPost.no HV.out HBX.out
    · have HV : Hid (fixP l ids = if 16 < out.length then none else some out) := Lib.hid (by
        rw [HF2.out, List.drop_zero, HF.out, fixF_end ids out l k (by have := HLL.out; omega)])
      have hk0 : wr.cell? ⟨w.heap.size + 1, 0, none⟩ = some v := by rw [Lib.cell_of_heap HL.out.cells]; rfl
      clear hbw
      obtain ⟨A2, c2, hv⟩ : ∃ A c, v = .slice A out.length c := by
        rcases HL.out.own.2 with ⟨e, h0⟩ | ⟨g, cap, cur, e, _⟩
        · exact ⟨none, 0, by rw [e, h0]⟩
        · exact ⟨_, _, e⟩
      subst hv
      by_cases h16 : 16 < out.length
      · rw [if_pos h16] at HV
        go_wp2
        go_ret2
        exact FixPost.no HV.out HB.out
      · rw [if_neg h16] at HV
        go_wp2
        go_ret2
        exact FixPost.yes HV.out HL.out.own HB.out
end Go.Proofs.YtibklpbnjpefnaaGreatDoor

/- The walks of acl.like, its closure, acl.May and its closures. Condition: texts and lists below 2^31. -/
import Derived.Test.YtibklpbnjpefnaaGreatDoorAclF
import Derived.Test.YtibklpbnjpefnaaGreatDoorAclQ
import Derived.Laws.ShiftsVar
namespace Go.Proofs.YtibklpbnjpefnaaGreatDoor
open Go.RowKit

theorem decR_le (l : List UInt8) (most : Int) : decR l most ≤ most ∨ decR l most = -1 := by
  unfold decR
  split
  · exact .inr rfl
  · cases digF 0 l with
    | none => exact .inr rfl
    | some n =>
      simp only []
      split
      · exact .inr rfl
      · left; omega
theorem netBits_le (s : ByteArray) : netBits s ≤ 32 := by
  unfold netBits
  split
  · omega
  · rw [dec_eq _ _ (by omega)]
    rcases decR_le (netTail s).data.toList 32 with h | h <;> omega

set_option maxHeartbeats 1000000 in
theorem like1_any (s t : ByteArray) (ht : t.size < 4294967281) (a n : Int) (ha0 : 0 ≤ a) (ha1 : a < 4294967296) (hn0 : 0 ≤ n) (hn1 : n ≤ 32) (ba bn : Nat) (w : World) (hE : Env w) (hca : w.cell? ⟨ba, 0, none⟩ = some (.int .u32 a)) (hcn : w.cell? ⟨bn, 0, none⟩ = some (.int .i64 n)) :
    Calls Tryz.prog 108 #[.agg #[.string s, .string t], .pointer (some ⟨ba, 0, none⟩), .pointer (some ⟨bn, 0, none⟩)] w (RetB w (ipLike a n (s, t))) := by
  have hlta := World.block_lt_of_cell? w _ hca
  have hltn := World.block_lt_of_cell? w _ hcn
  have hb0 : Below w.heap.size w (w.alloc (.cells #[.string s, .string t] 69)) := (Below.refl _ w).alloc (Nat.le_refl _) _
  have cA := fun W (hW : Env W) => address_any t ht W hW
  have f2 := str_ip s
  have hE0 := hE.later hb0
  cases ho : adr t with
  | none =>
    have HV : Hid (ipLike a n (s, t) = false) := Lib.hid (by unfold ipLike; simp only []; rw [ho]; simp)
    unfold RetA at cA
    rw [ho] at cA
    clear ho
    by_cases e : s = sIp
    · rw [decide_eq_true e] at f2
      clear e
      go_enter Tryz.func108, Tryz.ntmps108
      go_wp2_with fail
      refine (cA _ hE0).mono ?_
      rintro e w1 ⟨rfl, hb1⟩
      obtain ⟨hc1, hf1⟩ := bcell hb1
      go_wp2
      go_ret
      exact RetB.mk (hb0.trans (hb1.mono hb0.size)) HV.out.symm
    · rw [decide_eq_false e] at f2
      clear e
      go_enter Tryz.func108, Tryz.ntmps108
      go_wp2_with fail
      refine (cA _ hE0).mono ?_
      rintro e w1 ⟨rfl, hb1⟩
      obtain ⟨hc1, hf1⟩ := bcell hb1
      go_wp2
      go_ret
      exact RetB.mk (hb0.trans (hb1.mono hb0.size)) HV.out.symm
  | some y =>
    have hy := adr_range t y ho
    unfold RetA at cA
    rw [ho] at cA
    by_cases e : s = sIp
    · have HV : Hid (ipLike a n (s, t) = decide (topB a n = topB y n)) := Lib.hid (by unfold ipLike; simp only []; rw [ho, decide_eq_true e]; rfl)
      rw [decide_eq_true e] at f2
      clear e ho
      go_enter Tryz.func108, Tryz.ntmps108
      go_wp2_with fail
      refine (cA _ hE0).mono ?_
      rintro e w1 ⟨rfl, hb1⟩
      obtain ⟨hc1, hf1⟩ := bcell hb1
      go_wp2
      go_ret
      exact RetB.mk (hb0.trans (hb1.mono hb0.size)) (by rw [HV.out]; rfl)
    · have HV : Hid (ipLike a n (s, t) = false) := Lib.hid (by unfold ipLike; simp only []; rw [decide_eq_false e]; simp)
      rw [decide_eq_false e] at f2
      clear e ho
      go_enter Tryz.func108, Tryz.ntmps108
      go_wp2_with fail
      refine (cA _ hE0).mono ?_
      rintro e w1 ⟨rfl, hb1⟩
      obtain ⟨hc1, hf1⟩ := bcell hb1
      go_wp2
      go_ret
      exact RetB.mk (hb0.trans (hb1.mono hb0.size)) HV.out.symm

theorem ipAny_any (A : Option Addr) (m c : Nat) (ids : List IdV) (a n : Int) (ha0 : 0 ≤ a) (ha1 : a < 4294967296) (hn0 : 0 ≤ n) (hn1 : n ≤ 32) (ba bn : Nat) (w : World) (hE : Env w) (hz : Sl w w.heap.size encId 2 A m ids) (hm : m ≤ 281474976710656) (hsz : ∀ j, j < m → ids[j]!.2.size < 4294967281)
    (hca : w.cell? ⟨ba, 0, none⟩ = some (.int .u32 a)) (hcn : w.cell? ⟨bn, 0, none⟩ = some (.int .i64 n)) :
    Calls Tryz.prog 76 #[.slice A m c, .func (.func 108) #[] #[.pointer (some ⟨ba, 0, none⟩), .pointer (some ⟨bn, 0, none⟩)]] w (RetB w (ids.any (ipLike a n))) := by
  have hlta := World.block_lt_of_cell? w _ hca
  have hltn := World.block_lt_of_cell? w _ hcn
  refine containsFuncId_any A m c 108 #[.pointer (some ⟨ba, 0, none⟩), .pointer (some ⟨bn, 0, none⟩)] (enters_of Tryz.func108 (by kernel_rfl) rfl) ids (ipLike a n) w hz hm ?_
  intro W k hk hW
  have := like1_any ids[k]!.1 ids[k]!.2 (hsz k hk) a n ha0 ha1 hn0 hn1 ba bn W (hE.later hW) ((hW.cell (p := ⟨ba, 0, none⟩) hlta).trans hca) ((hW.cell (p := ⟨bn, 0, none⟩) hltn).trans hcn)
  exact this

set_option maxHeartbeats 1000000 in
theorem like_any (s t : ByteArray) (ht : t.size < 4294967281) (A : Option Addr) (m c : Nat) (ids : List IdV) (w : World) (hE : Env w) (hz : Sl w w.heap.size encId 2 A m ids) (hm : m ≤ 281474976710656) (hsz : ∀ j, j < m → ids[j]!.2.size < 4294967281) (hok : s = sWorld ∨ s = sDigest ∨ netOk t = true) :
    Calls Tryz.prog 80 #[.agg #[.string s, .string t], .slice A m c] w (RetB w (likeP (s, t) ids)) := by
  have hb0 : Below w.heap.size w (w.alloc (.cells #[.string s, .string t] 69)) := (Below.refl _ w).alloc (Nat.le_refl _) _
  have HL := Lib.hid (show likeP (s, t) ids = if s = sWorld then true else if s = sDigest then ids.any (fun y => decide (y = (s, t))) else ids.any (ipLike (netA t) (netBits t)) from rfl)
  have f1 := str_world s; have f2 := str_digest s
  have hE0 := hE.later hb0
  by_cases e1 : s = sWorld
  · have HV : Hid (likeP (s, t) ids = true) := Lib.hid (by rw [HL.out, if_pos e1])
    rw [decide_eq_true e1] at f1
    clear e1 f2 hok
    go_enter Tryz.func80, Tryz.ntmps80
    go_wp2
    go_ret
    exact RetB.mk hb0 HV.out.symm
  rw [decide_eq_false e1] at f1
  by_cases e2 : s = sDigest
  · have HV : Hid (likeP (s, t) ids = ids.any (fun y => decide (y = (s, t)))) := Lib.hid (by rw [HL.out, if_neg e1, if_pos e2])
    rw [decide_eq_true e2] at f2
    clear e1 e2 hok
    have cC := fun W (hW : Sl W W.heap.size encId 2 A m ids) => containsId_any A m c ids s t W hW hm
    have hz0 : Sl (w.alloc (.cells #[.string s, .string t] 69)) (w.alloc (.cells #[.string s, .string t] 69)).heap.size encId 2 A m ids := hz.belowMore hb0 hb0.size
    generalize ids.any (fun y => decide (y = (s, t))) = b at *
    go_enter Tryz.func80, Tryz.ntmps80
    go_wp2_with fail
    refine (cC _ hz0).mono ?_
    rintro e w1 ⟨rfl, hb1⟩
    go_wp2
    go_ret
    exact RetB.mk (hb0.trans (hb1.mono hb0.size)) HV.out.symm
  rw [decide_eq_false e2] at f2
  have hnet : netOk t = true := by rcases hok with h | h | h; exact absurd h e1; exact absurd h e2; exact h
  have HV : Hid (likeP (s, t) ids = ids.any (ipLike (netA t) (netBits t))) := Lib.hid (by rw [HL.out, if_neg e1, if_neg e2])
  have hra := netA_range t
  have hrb := netBits_le t
  have hrb0 : 0 ≤ netBits t := by unfold netOk at hnet; simp only [Bool.and_eq_true, decide_eq_true_eq] at hnet; exact hnet.2
  have cN := fun W (hW : Env W) => network_any t ht W hW
  unfold RetN at cN
  rw [hnet] at cN
  have cF := fun (W : World) (ba bn : Nat) (hW : Below w.heap.size w W) => ipAny_any A m c ids (netA t) (netBits t) hra.1 hra.2 hrb0 hrb ba bn W (hE.later hW) (hz.belowMore hW hW.size) hm hsz
  clear e1 e2 hok hnet HL hz hsz
  generalize netA t = a at *
  generalize netBits t = nb at *
  generalize ids.any (ipLike a nb) = b at *
  go_enter Tryz.func80, Tryz.ntmps80
  go_wp2_with fail
  refine (cN _ hE0).mono ?_
  rintro e w1 ⟨rfl, hb1⟩
  go_wp2_with fail
  have hbw : Below w.heap.size w w1 := hb0.trans (hb1.mono hb0.size)
  have hb2 : Below w.heap.size w ((w1.alloc (.cells #[.int .u32 a] 79)).alloc (.cells #[.int .i64 nb] 3)) := (hbw.alloc hbw.size _).alloc (by have := hbw.size; simp; omega) _
  refine (cF _ _ _ hb2 (by simp) (by simp)).mono ?_
  rintro e w2 ⟨rfl, hb3⟩
  go_wp2
  go_ret
  exact RetB.mk (hb2.trans (hb3.mono hb2.size)) HV.out.symm

theorem hit_bits (p q : Int) : (bits .and .i32 p q != 0) = hit p q := by
  have key : ∀ v : BitVec 32, (IntKind.i32.wrap (v.toNat : Int) != 0) = decide (v ≠ 0#32) := by
    intro v
    have hv : v.toNat < 4294967296 := v.isLt
    by_cases h : v = 0#32
    · subst h; decide
    · rw [decide_eq_true h, bne_iff_ne, IntKind.wrap_i32]
      have h0 : v.toNat ≠ 0 := fun e => h (BitVec.eq_of_toNat_eq (by simpa using e))
      omega
  exact key _
theorem hit_bits' (p q : Int) : (bits .and .i32 p q == 0) = !hit p q := by
  rw [← hit_bits]; simp [bne]

set_option maxHeartbeats 1000000 in
theorem may2_any (p : Int) (s t : ByteArray) (hs : s.size ≤ 140737488355328) (ht : t.size < 4294967281) (q : Int) (A : Option Addr) (m c : Nat) (ids : List IdV) (bp bi : Nat) (w : World) (hE : Env w) (hz : Sl w w.heap.size encId 2 A m ids) (hm : m ≤ 281474976710656) (hsz : ∀ j, j < m → ids[j]!.2.size < 4294967281)
    (hcp : w.cell? ⟨bp, 0, none⟩ = some (.int .i32 q)) (hci : w.cell? ⟨bi, 0, none⟩ = some (.slice A m c)) :
    Calls Tryz.prog 79 #[.agg #[.int .i32 p, .string s, .string t], .pointer (some ⟨bp, 0, none⟩), .pointer (some ⟨bi, 0, none⟩)] w (RetB w (lets q ids (p, s, t))) := by
  have hltp := World.block_lt_of_cell? w _ hcp
  have hlti := World.block_lt_of_cell? w _ hci
  have hb0 : Below w.heap.size w (w.alloc (.cells #[.int .i32 p, .string s, .string t] 71)) := (Below.refl _ w).alloc (Nat.le_refl _) _
  have cR := fun W (hW : Env W) => right_any p s t hs (by omega) W hW
  have HL := Lib.hid (show lets q ids (p, s, t) = (rightP (p, s, t) && hit p q && likeP (s, t) ids) from rfl)
  have hE0 := hE.later hb0
  cases hr : rightP (p, s, t) with
  | false =>
    have HV : Hid (lets q ids (p, s, t) = false) := Lib.hid (by rw [HL.out, hr]; rfl)
    rw [hr] at cR
    clear hr hz hsz
    go_enter Tryz.func79, Tryz.ntmps79
    go_wp2_with fail
    refine (cR _ hE0).mono ?_
    rintro e w1 ⟨rfl, hb1⟩
    go_wp2
    go_ret
    exact RetB.mk (hb0.trans (hb1.mono hb0.size)) HV.out.symm
  | true =>
    have hok : s = sWorld ∨ s = sDigest ∨ netOk t = true := by
      rw [rightP_eq] at hr
      simp only [Bool.and_eq_true] at hr
      have h := hr.2
      by_cases e1 : s = sWorld
      · exact .inl e1
      · by_cases e2 : s = sDigest
        · exact .inr (.inl e2)
        · rw [if_neg e1, if_neg e2] at h
          by_cases e3 : s = sIp
          · rw [if_pos e3] at h; exact .inr (.inr h)
          · rw [if_neg e3] at h; cases h
    rw [hr] at cR
    have h1 := hit_bits p q
    cases hh : hit p q with
    | false =>
      have HV : Hid (lets q ids (p, s, t) = false) := Lib.hid (by rw [HL.out, hh]; simp)
      rw [hh] at h1
      clear hr hz hsz hok hh
      go_enter Tryz.func79, Tryz.ntmps79
      go_wp2_with fail
      refine (cR _ hE0).mono ?_
      rintro e w1 ⟨rfl, hb1⟩
      obtain ⟨hc1, hf1⟩ := bcell hb1
      have hz1 : w.heap.size < w1.heap.size := by have := hb1.size; simp at this; omega
      go_wp2
      go_ret
      exact RetB.mk (hb0.trans (hb1.mono hb0.size)) HV.out.symm
    | true =>
      have HV : Hid (lets q ids (p, s, t) = likeP (s, t) ids) := Lib.hid (by rw [HL.out, hr, hh]; rfl)
      rw [hh] at h1
      have cL := fun (W : World) (hW : Below w.heap.size w W) => like_any s t ht A m c ids W (hE.later hW) (hz.belowMore hW hW.size) hm hsz hok
      clear hr hz hsz hok hh
      generalize likeP (s, t) ids = b at *
      go_enter Tryz.func79, Tryz.ntmps79
      go_wp2_with fail
      refine (cR _ hE0).mono ?_
      rintro e w1 ⟨rfl, hb1⟩
      obtain ⟨hc1, hf1⟩ := bcell hb1
      have hz1 : w.heap.size < w1.heap.size := by have := hb1.size; simp at this; omega
      have hbw : Below w.heap.size w w1 := hb0.trans (hb1.mono hb0.size)
      go_wp2_with fail
      refine (cL _ hbw).mono ?_
      rintro e w2 ⟨rfl, hb2⟩
      go_wp2
      go_ret
      exact RetB.mk (hbw.trans (hb2.mono hbw.size)) HV.out.symm
end Go.Proofs.YtibklpbnjpefnaaGreatDoor

/- The walks of acl.May, arborref06.like, arborref06.May. Condition: texts and lists below 2^31. -/
import Derived.Test.YtibklpbnjpefnaaGreatDoorAclL
import Derived.Test.YtibklpbnjpefnaaGreatDoorRefA6
import Derived.Lib.QuietBelow
namespace Go.Proofs.YtibklpbnjpefnaaGreatDoor
open Go.RowKit

theorem may1_any (s t : ByteArray) (w : World) :
    Calls Tryz.prog 77 #[.agg #[.string s, .string t]] w (RetB w (decide (s = sSuper))) := by
  have f := str_super s
  cases hb : decide (s = sSuper)
  all_goals
    rw [hb] at f
    clear hb
    go_enter Tryz.func77, Tryz.ntmps77
    go_wp2
    go_ret
    exact ⟨rfl, (Below.refl _ w).alloc (Nat.le_refl _) _⟩

/-- what is asked of an entry's texts, of an identity's -/
def SmallA (l : List AclV) (n : Nat) : Prop := ∀ j, j < n → l[j]!.2.1.size ≤ 1073741824 ∧ l[j]!.2.2.size ≤ 1073741824
def SmallI (l : List IdV) (n : Nat) : Prop := ∀ j, j < n → l[j]!.1.size ≤ 1073741824 ∧ l[j]!.2.size ≤ 1073741824

set_option maxHeartbeats 1000000 in
theorem may_any (A : Option Addr) (n c : Nat) (l : List AclV) (q : Int) (A' : Option Addr) (m c' : Nat) (ids : List IdV) (w : World) (hE : Env w) (hl : Sl w w.heap.size encAcl 3 A n l) (hn : n ≤ 281474976710656) (hz : Sl w w.heap.size encId 2 A' m ids) (hm : m ≤ 281474976710656) (hsl : SmallA l n) (hsi : SmallI ids m) :
    Calls Tryz.prog 48 #[.slice A n c, .int .i32 q, .slice A' m c'] w (RetB w (mayP l q ids)) := by
  have HM := Lib.hid (show mayP l q ids = (l.isEmpty || ids.any (fun x => decide (x.1 = sSuper)) || l.any (lets q ids)) from rfl)
  have hb0 : Below w.heap.size w ((w.alloc (.cells #[.int .i32 q] 21)).alloc (.cells #[.slice A' m c'] 23)) := ((Below.refl _ w).alloc (Nat.le_refl _) _).alloc (by simp) _
  by_cases h0 : n = 0
  · have HV : Hid (mayP l q ids = true) := Lib.hid (by
      have : l = [] := List.length_eq_zero_iff.1 (by rw [hl.1, h0])
      rw [HM.out, this]; rfl)
    subst h0
    clear hl hz hsl hsi
    go_enter Tryz.func48, Tryz.ntmps48
    go_wp2
    go_ret
    exact RetB.mk hb0 HV.out.symm
  have hne : l.isEmpty = false := by
    cases l with
    | nil => exact absurd hl.1.symm h0
    | cons _ _ => rfl
  have hd : ((n : Int) == 0) = false := by simp; omega
  have c1 := fun (W : World) (hW : Below w.heap.size w W) => containsFuncId_any A' m c' 77 #[] (enters_of Tryz.func77 (by kernel_rfl) rfl) ids (fun x => decide (x.1 = sSuper)) W (hz.belowMore hW hW.size) hm (fun W2 k _ _ => may1_any ids[k]!.1 ids[k]!.2 W2)
  cases hs : ids.any (fun x => decide (x.1 = sSuper)) with
  | true =>
    have HV : Hid (mayP l q ids = true) := Lib.hid (by rw [HM.out, hs]; simp)
    rw [hs] at c1
    clear hs hl hz hsl hsi h0
    go_enter Tryz.func48, Tryz.ntmps48
    go_wp2_with fail
    refine (c1 _ hb0).mono ?_
    rintro e w1 ⟨rfl, hb1⟩
    go_wp2
    go_ret
    exact RetB.mk (hb0.trans (hb1.mono hb0.size)) HV.out.symm
  | false =>
    have HV : Hid (mayP l q ids = l.any (lets q ids)) := Lib.hid (by rw [HM.out, hs, hne]; rfl)
    rw [hs] at c1
    have c2 := fun (W : World) (bp bi : Nat) (hW : Below w.heap.size w W) (hp : W.cell? ⟨bp, 0, none⟩ = some (.int .i32 q)) (hi : W.cell? ⟨bi, 0, none⟩ = some (.slice A' m c')) =>
      containsFuncAcl_any A n c 79 #[.pointer (some ⟨bp, 0, none⟩), .pointer (some ⟨bi, 0, none⟩)] (enters_of Tryz.func79 (by kernel_rfl) rfl) l (lets q ids) W (hl.belowMore hW hW.size) hn
        (fun W2 k hk hW2 => may2_any l[k]!.1 l[k]!.2.1 l[k]!.2.2 (by have := (hsl k hk).1; omega) (by have := (hsl k hk).2; omega) q A' m c' ids bp bi W2 ((hE.later hW).later hW2) ((hz.belowMore hW hW.size).belowMore hW2 hW2.size) hm (fun j hj => by have := (hsi j hj).2; omega)
          ((hW2.cell (p := ⟨bp, 0, none⟩) (World.block_lt_of_cell? W _ hp)).trans hp) ((hW2.cell (p := ⟨bi, 0, none⟩) (World.block_lt_of_cell? W _ hi)).trans hi))
    generalize l.any (lets q ids) = b at *
    clear hs hl hz hsl hsi h0 hne HM
    go_enter Tryz.func48, Tryz.ntmps48
    go_wp2_with fail
    refine (c1 _ hb0).mono ?_
    rintro e w1 ⟨rfl, hb1⟩
    obtain ⟨hc1, hf1⟩ := bcell hb1
    have hz1 : w.heap.size + 1 < w1.heap.size := by have := hb1.size; simp at this; omega
    have hbw : Below w.heap.size w w1 := hb0.trans (hb1.mono hb0.size)
    have k1 : w1.cell? ⟨w.heap.size, 0, none⟩ = some (.int .i32 q) := by rw [hc1 _ _ (by simp; omega)]; simp
    have k2 : w1.cell? ⟨w.heap.size + 1, 0, none⟩ = some (.slice A' m c') := by rw [hc1 _ _ (by simp)]; simp
    go_wp2_with fail
    refine (c2 _ _ _ hbw k1 k2).mono ?_
    rintro e w2 ⟨rfl, hb2⟩
    go_wp2
    go_ret
    exact RetB.mk (hbw.trans (hb2.mono hbw.size)) HV.out.symm

/-- does an entry, that is right and no 'world', speak of an identity? -/
def like1 (s t : ByteArray) (x : IdV) : Bool := if s = sDigest then decide (x = (s, t)) else ipLike (netA t) (netBits t) x

theorem likeP_any (x : IdV) (ids : List IdV) (h : x.1 ≠ sWorld) : likeP x ids = ids.any (like1 x.1 x.2) := by
  unfold likeP like1
  rw [if_neg h]
  by_cases e : x.1 = sDigest
  · rw [if_pos e]; simp only [if_pos e]
  · rw [if_neg e]; simp only [if_neg e]
def SupRel (ids : List IdV) (m : Nat) (i : Value) : Prop := ∃ k : Nat, i = .int .i64 ↑k ∧ k ≤ m ∧ (∀ j, j < k → decide (ids[j]!.1 = sSuper) = false)
def LetRel (l : List AclV) (n : Nat) (q : Int) (ids : List IdV) (w : World) (i : Value) (wr : World) : Prop := ∃ k : Nat, i = .int .i64 ↑k ∧ k ≤ n ∧ (∀ j, j < k → lets q ids l[j]! = false) ∧ Below w.heap.size w wr
def LikRel (s t : ByteArray) (ids : List IdV) (m : Nat) (w : World) (i : Value) (wr : World) : Prop := ∃ k : Nat, i = .int .i64 ↑k ∧ k ≤ m ∧ (∀ j, j < k → like1 s t ids[j]! = false) ∧ Below w.heap.size w wr

end Go.Proofs.YtibklpbnjpefnaaGreatDoor

/- The walk of arborref02.Utf8. Condition: the text has at most 2^47 bytes. -/
import Derived.Test.YtibklpbnjpefnaaGreatDoorRefA
namespace Go.Proofs.YtibklpbnjpefnaaGreatDoor
open Go.RowKit

def loJ (m : Int × Nat × Nat) (j : Nat) : Nat := if j = 1 then m.2.1 else 128
def hiJ (m : Int × Nat × Nat) (j : Nat) : Nat := if j = 1 then m.2.2 else 191
theorem loJ_one (m : Int × Nat × Nat) : loJ m 1 = m.2.1 := rfl
theorem hiJ_one (m : Int × Nat × Nat) : hiJ m 1 = m.2.2 := rfl
theorem loJ_more (m : Int × Nat × Nat) (j : Nat) (h : 1 ≤ j) : loJ m (j + 1) = 128 := if_neg (by omega)
theorem hiJ_more (m : Int × Nat × Nat) (j : Nat) (h : 1 ≤ j) : hiJ m (j + 1) = 191 := if_neg (by omega)
def byteJ (b1 b2 b3 j : Nat) : Nat := if j = 1 then b1 else if j = 2 then b2 else b3
def goodJ (m : Int × Nat × Nat) (b1 b2 b3 j : Nat) : Prop := loJ m j ≤ byteJ b1 b2 b3 j ∧ byteJ b1 b2 b3 j ≤ hiJ m j
theorem next_short (len b0 b1 b2 b3 : Nat) (h : (moreI b0).1 < 0 ∨ (0 < (moreI b0).1 ∧ (len : Int) ≤ (moreI b0).1)) : nextM len b0 b1 b2 b3 = none := by
  unfold nextM; rw [if_pos h]
theorem next_bad (len b0 b1 b2 b3 j : Nat) (h1 : 1 ≤ j) (h2 : (j : Int) ≤ (moreI b0).1) (h : ¬ goodJ (moreI b0) b1 b2 b3 j) : nextM len b0 b1 b2 b3 = none := by
  have hr := lt_of_moreI b0
  unfold nextM
  have h3 : j ≤ 3 := by omega
  unfold goodJ at h
  split
  · rfl
  match j, h1, h3 with
  | 1, _, _ => rw [if_pos ⟨by omega, by simp [loJ, hiJ, byteJ] at h; omega⟩]
  | 2, _, _ =>
    split
    · rfl
    · rw [if_pos ⟨by omega, by simp [loJ, hiJ, byteJ] at h; omega⟩]
  | 3, _, _ =>
    split
    · rfl
    · split
      · rfl
      · rw [if_pos ⟨by omega, by simp [loJ, hiJ, byteJ] at h; omega⟩]
theorem next_ok (len b0 b1 b2 b3 : Nat) (h : ¬ ((moreI b0).1 < 0 ∨ (0 < (moreI b0).1 ∧ (len : Int) ≤ (moreI b0).1))) (hg : ∀ j : Nat, 1 ≤ j → (j : Int) ≤ (moreI b0).1 → goodJ (moreI b0) b1 b2 b3 j) :
    nextM len b0 b1 b2 b3 = some ((moreI b0).1.toNat + 1) := by
  unfold nextM
  rw [if_neg h, if_neg, if_neg, if_neg]
  · rintro ⟨a, b⟩
    have := hg 3 (by omega) (by omega)
    simp [goodJ, loJ, hiJ, byteJ] at this; omega
  · rintro ⟨a, b⟩
    have := hg 2 (by omega) (by omega)
    simp [goodJ, loJ, hiJ, byteJ] at this; omega
  · rintro ⟨a, b⟩
    have := hg 1 (by omega) (by omega)
    simp [goodJ, loJ, hiJ, byteJ] at this; omega
theorem get_bang (s : ByteArray) (k : Nat) (h : k < s.size) : s.get! k = s[k] := by
  show s.data[k]! = _
  rw [getElem!_pos s.data k h]; rfl
theorem byteJ_at (s : ByteArray) (p j : Nat) (h1 : 1 ≤ j) (h2 : j ≤ 3) (h : p + j < s.size) : (s[p + j].toNat : Nat) = byteJ (s.get! (p + 1)).toNat (s.get! (p + 2)).toNat (s.get! (p + 3)).toNat j := by
  rw [← get_bang s (p + j) h]
  match j, h1, h2 with
  | 1, _, _ => rfl
  | 2, _, _ => rfl
  | 3, _, _ => rfl
def SameB (w : World) (b : Bool) (e : Ending) (w' : World) : Prop := e = .returned (.bool b) ∧ w = w'
theorem SameB.mk {w : World} {a b : Bool} (e : b = a) : SameB w a (.returned (.bool b)) w := ⟨by rw [e], rfl⟩
def InRel (m : Int × Nat × Nat) (b1 b2 b3 : Nat) (lo hi k : Value) : Prop := ∃ j : Nat, k = .int .i64 ↑j ∧ 1 ≤ j ∧ (j : Int) ≤ m.1 + 1 ∧ lo = .int .u8 ↑(loJ m j) ∧ hi = .int .u8 ↑(hiJ m j) ∧ ∀ i, 1 ≤ i → i < j → goodJ m b1 b2 b3 i

set_option maxRecDepth 100000 in
set_option maxHeartbeats 4000000 in
theorem utf8_any (s : ByteArray) (hs : s.size ≤ 140737488355328) (w : World) :
    Calls Tryz.prog 114 #[.string s] w (SameB w (validFrom s 0)) := by
  go_enter Tryz.func114, Tryz.ntmps114
  go_wp2
  go_loop [3] (fun i => ∃ p : Nat, i = .int .i64 ↑p ∧ p ≤ s.size ∧ validFrom s p = validFrom s 0) (fun i => s.size - (intOf i).toNat)
  case atStart => exact ⟨0, rfl, by omega, rfl⟩
  case round =>
    obtain ⟨p, rfl, hp, hF⟩ := hrel
    have HF := Lib.hid hF; clear hF
    by_cases hlt : p < s.size
    · have hst := validFrom_step s p hlt
      have hg0 : (s[p].toNat : Nat) = (s.get! p).toNat := by rw [get_bang s p hlt]
      have hb0 : (s.get! p).toNat < 256 := UInt8.toNat_lt _
      have hr := lt_of_moreI (s.get! p).toNat
      have HS := Lib.hid hst; clear hst
      have hi1 : (0 : Int) ≤ (p : Int) ∧ (p : Int) < (s.size : Int) := by omega
      have cM := fun W => more_any (s.get! p).toNat hb0 W
      unfold RetM at cM
      have HJ := Lib.hid (fun j (h1 : 1 ≤ j) (h2 : j ≤ 3) (h : p + j < s.size) => byteJ_at s p j h1 h2 h)
      have HBJ : Hid (∀ j, byteJ (s.get! (p + 1)).toNat (s.get! (p + 2)).toNat (s.get! (p + 3)).toNat j < 256) := Lib.hid (fun j => by
        unfold byteJ; split
        · exact UInt8.toNat_lt _
        · split <;> exact UInt8.toNat_lt _)
      have HG0 := Lib.hid hg0; clear hg0
      have HN0 := Lib.hid (next_short (s.size - p) (s.get! p).toNat (s.get! (p + 1)).toNat (s.get! (p + 2)).toNat (s.get! (p + 3)).toNat)
      have HN1 := Lib.hid (next_bad (s.size - p) (s.get! p).toNat (s.get! (p + 1)).toNat (s.get! (p + 2)).toNat (s.get! (p + 3)).toNat)
      have HN2 := Lib.hid (next_ok (s.size - p) (s.get! p).toNat (s.get! (p + 1)).toNat (s.get! (p + 2)).toNat (s.get! (p + 3)).toNat)
      generalize moreI (s.get! p).toNat = mm at *
      generalize nextM (s.size - p) (s.get! p).toNat (s.get! (p + 1)).toNat (s.get! (p + 2)).toNat (s.get! (p + 3)).toNat = nx at *
      generalize (s.get! (p + 1)).toNat = b1 at *
      generalize (s.get! (p + 2)).toNat = b2 at *
      generalize (s.get! (p + 3)).toNat = b3 at *
      generalize (s.get! p).toNat = b0 at *
      obtain ⟨n, lo, hi⟩ := mm
      simp only [] at hr cM
      obtain ⟨r1, r2, r3, r4⟩ := hr
      by_cases hn : n < 0
      · have HX : Hid (validFrom s 0 = false) := Lib.hid (by rw [← HF.out, HS.out, HN0.out (.inl hn)])
        go_wp2_with fail
        rw [HG0.out]
        refine (cM _).mono ?_
        rintro e w1 ⟨rfl, rfl⟩
        go_wp2
        go_ret
        exact SameB.mk HX.out.symm
      by_cases hsh : 0 < n ∧ (s.size : Int) ≤ p + n
      · have HX : Hid (validFrom s 0 = false) := Lib.hid (by rw [← HF.out, HS.out, HN0.out (.inr ⟨hsh.1, by omega⟩)])
        obtain ⟨h1, h2⟩ := hsh
        have h3 : 0 ≤ n := by omega
        clear hn
        go_wp2_with fail
        rw [HG0.out]
        refine (cM _).mono ?_
        rintro e w1 ⟨rfl, rfl⟩
        go_wp2
        go_ret
        exact SameB.mk HX.out.symm
      have h0n : 0 ≤ n := by omega
      have hpn : (p : Int) + n < s.size := by omega
      have hpn0 : 0 ≤ (p : Int) + n := by omega
      have HSH := Lib.hid (show ¬ (n < 0 ∨ (0 < n ∧ ((s.size - p : Nat) : Int) ≤ n)) by omega)
      clear hn hsh
      go_wp2_with fail
      rw [HG0.out]
      refine (cM _).mono ?_
      rintro e w1 ⟨rfl, rfl⟩
      go_wp2
      go_loop [5, 6, 7] (InRel (n, lo, hi) b1 b2 b3) (fun _ _ k => n.toNat + 2 - (intOf k).toNat)
      case atStart => exact ⟨1, rfl, Nat.le_refl _, by show (1 : Int) ≤ n + 1; omega, rfl, rfl, fun i h1 h2 => absurd h1 (by omega)⟩
      case round =>
        obtain ⟨j, rfl, hj1, hj2, rfl, rfl, hall⟩ := hrel
        have HA := Lib.hid hall; clear hall
        simp only [] at hj2
        by_cases hle : (j : Int) ≤ n
        · have hx1 : p + j < s.size := by omega
          have hx2 : (0 : Int) ≤ (p : Int) + j ∧ (p : Int) + j < (s.size : Int) := by omega
          have hbj := HJ.out j hj1 (by omega) hx1
          have hb9 := HBJ.out j
          by_cases hgd : goodJ (n, lo, hi) b1 b2 b3 j
          · have HG := Lib.hid hgd
            unfold goodJ at hgd
            rw [← hbj] at hgd hb9
            clear hbj
            obtain ⟨g1, g2⟩ := hgd
            generalize loJ (n, lo, hi) j = x at *
            generalize hiJ (n, lo, hi) j = y at *
            go_wp2
            refine ⟨⟨j + 1, by go_num, by omega, by show ((j + 1 : Nat) : Int) ≤ n + 1; omega, by rw [loJ_more _ _ hj1]; rfl, by rw [hiJ_more _ _ hj1]; rfl, fun i h1 h2 => ?_⟩, by simp [intOf]; omega⟩
            rcases Nat.lt_succ_iff_lt_or_eq.1 h2 with h | h
            · exact HA.out i h1 h
            · subst h; exact HG.out
          · have HX : Hid (validFrom s 0 = false) := Lib.hid (by rw [← HF.out, HS.out, HN1.out j hj1 hle hgd])
            unfold goodJ at hgd
            rw [← hbj] at hgd hb9
            clear hbj
            generalize loJ (n, lo, hi) j = x at *
            generalize hiJ (n, lo, hi) j = y at *
            by_cases g1 : s[p + j].toNat < x
            · clear hgd
              go_wp2
              go_ret
              exact SameB.mk HX.out.symm
            · have g2 : y < s[p + j].toNat := by omega
              clear hgd
              go_wp2
              go_ret
              exact SameB.mk HX.out.symm
        · have HX : Hid (validFrom s (p + 1 + n.toNat) = validFrom s 0) := Lib.hid (by rw [← HF.out, HS.out, HN2.out HSH.out (fun i h1 h2 => HA.out i h1 (by omega))]; show _ = validFrom s (p + (n.toNat + 1)); congr 1; omega)
          go_wp2
          refine ⟨⟨p + 1 + n.toNat, ?_, by omega, HX.out⟩, by simp [intOf]; omega⟩
          rw [show ((p + 1 + n.toNat : Nat) : Int) = (p : Int) + 1 + n by omega]
    · go_wp2
      go_ret
      exact SameB.mk (by rw [← HF.out]; exact (validFrom_end s p hlt).symm)
end Go.Proofs.YtibklpbnjpefnaaGreatDoor

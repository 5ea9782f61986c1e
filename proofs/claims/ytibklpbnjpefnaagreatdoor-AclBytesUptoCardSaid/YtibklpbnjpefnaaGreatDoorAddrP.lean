/- Plain facts: the program's addresses (strings.Split at the points, each piece a small number) and the reference's (cut by cut) are the same. No program in sight; no condition. 'st' is what both do with a number and the next. -/
import Derived.Lib.Split
import Derived.Lib.SplitLaws
import Derived.Lib.IndexBytes
import Derived.Test.YtibklpbnjpefnaaGreatDoorDecP
namespace Go.Proofs.YtibklpbnjpefnaaGreatDoor
open Go.Lib

/-- how far it is to the first byte of that kind (to the end, if there is none) -/
def untilN (c : UInt8) : List UInt8 → Nat
  | [] => 0
  | b :: r => if b = c then 0 else untilN c r + 1
theorem untilN_le (c : UInt8) : ∀ l : List UInt8, untilN c l ≤ l.length
  | [] => Nat.le_refl _
  | b :: r => by have := untilN_le c r; unfold untilN; split <;> simp <;> omega
theorem index_one (c : UInt8) : ∀ l : List UInt8, index l [c] = if untilN c l = l.length then -1 else (untilN c l : Int)
  | [] => rfl
  | b :: r => by
    have ih := index_one c r
    have hle := untilN_le c r
    unfold index untilN
    by_cases h : b = c
    · subst h; simp
    · have hp : ([c].isPrefixOf (b :: r)) = false := by simp [List.isPrefixOf, Ne.symm h]
      rw [hp, if_neg h, ih]
      by_cases h2 : untilN c r = r.length
      · simp [h2]
      · have h3 : ¬ ((untilN c r : Int) = -1) := by omega
        simp [h2]
        try omega
theorem split_end (c : UInt8) (l : List UInt8) (h : untilN c l = l.length) : split l [c] = [l] := by
  have hi : index l [c] = -1 := by rw [index_one, if_pos h]
  unfold split; rw [count_miss hi]; rfl
theorem split_more (c : UInt8) (l : List UInt8) (h : untilN c l ≠ l.length) : split l [c] = l.take (untilN c l) :: split (l.drop (untilN c l + 1)) [c] := by
  have hi : index l [c] = (untilN c l : Nat) := by rw [index_one, if_neg h]
  unfold split
  rw [count_hit (by simp) hi, Nat.add_comm 1, splitK, hi]
  rw [if_neg (by simp)]
  simp
theorem split_ne (c : UInt8) (l : List UInt8) : 1 ≤ (split l [c]).length := by
  by_cases h : untilN c l = l.length
  · rw [split_end c l h]; simp
  · rw [split_more c l h]; simp
/-- the pieces' numbers, one behind the other -/
def foldD (st : Int → Int → Int) : Int → List (List UInt8) → Option Int
  | acc, [] => some acc
  | acc, p :: r => if decP p 255 < 0 then none else foldD st (st acc (decP p 255)) r
/-- the program's address -/
def addrP (st : Int → Int → Int) (l : List UInt8) : Option Int := if (split l [46]).length ≠ 4 then none else foldD st 0 (split l [46])
/-- the reference's: so many numbers are to come behind this one -/
def addrF (st : Int → Int → Int) : Nat → Int → List UInt8 → Option Int
  | 0, acc, l => if decR (l.take (untilN 46 l)) 255 < 0 ∨ untilN 46 l ≠ l.length then none else some (st acc (decR (l.take (untilN 46 l)) 255))
  | k + 1, acc, l => if decR (l.take (untilN 46 l)) 255 < 0 ∨ untilN 46 l = l.length then none else addrF st k (st acc (decR (l.take (untilN 46 l)) 255)) (l.drop (untilN 46 l + 1))
theorem addr_eq_at (st : Int → Int → Int) : ∀ (k : Nat) (acc : Int) (l : List UInt8), (if (split l [46]).length ≠ k + 1 then none else foldD st acc (split l [46])) = addrF st k acc l
  | 0, acc, l => by
    unfold addrF
    by_cases h : untilN 46 l = l.length
    · rw [split_end 46 l h, h, List.take_length]
      simp only [foldD, dec_eq l 255 (by omega)]
      by_cases hd : decR l 255 < 0
      · simp [hd]
      · simp [hd]
    · rw [split_more 46 l h, if_pos (by have := split_ne 46 (l.drop (untilN 46 l + 1)); simp only [List.length_cons]; omega), if_pos (.inr h)]
  | k + 1, acc, l => by
    unfold addrF
    by_cases h : untilN 46 l = l.length
    · rw [split_end 46 l h, if_pos (by simp), if_pos (.inr h)]
    · rw [split_more 46 l h]
      have ih := addr_eq_at st k (st acc (decR (l.take (untilN 46 l)) 255)) (l.drop (untilN 46 l + 1))
      by_cases hd : decR (l.take (untilN 46 l)) 255 < 0
      · have e1 : ∀ X : Option Int, (if decR (l.take (untilN 46 l)) 255 < 0 ∨ untilN 46 l = l.length then none else X) = none := fun X => if_pos (.inl hd)
        rw [e1]
        simp only [foldD, dec_eq _ 255 (show (255 : Int) ≤ 255 by omega), if_pos hd]
        split <;> rfl
      · have e1 : ∀ X : Option Int, (if decR (l.take (untilN 46 l)) 255 < 0 ∨ untilN 46 l = l.length then none else X) = X := fun X => if_neg (by intro hh; rcases hh with hh | hh; exact hd hh; exact h hh)
        rw [e1, ← ih]
        have e2 : foldD st acc (l.take (untilN 46 l) :: split (l.drop (untilN 46 l + 1)) [46]) = foldD st (st acc (decR (l.take (untilN 46 l)) 255)) (split (l.drop (untilN 46 l + 1)) [46]) := by
          simp only [foldD, dec_eq _ 255 (show (255 : Int) ≤ 255 by omega), if_neg hd]
        rw [e2, List.length_cons]
        by_cases hl : (split (l.drop (untilN 46 l + 1)) [46]).length = k + 1
        · have a1 : ¬ ((split (l.drop (untilN 46 l + 1)) [46]).length + 1 ≠ k + 1 + 1) := by omega
          have a2 : ¬ ((split (l.drop (untilN 46 l + 1)) [46]).length ≠ k + 1) := by omega
          rw [if_neg a1, if_neg a2]
        · have a1 : ((split (l.drop (untilN 46 l + 1)) [46]).length + 1 ≠ k + 1 + 1) := by omega
          rw [if_pos a1, if_pos hl]
/-- THE PROGRAM's ADDRESS AND THE REFERENCE's ARE THE SAME. -/
theorem addr_eq (st : Int → Int → Int) (l : List UInt8) : addrP st l = addrF st 3 0 l := addr_eq_at st 3 0 l
end Go.Proofs.YtibklpbnjpefnaaGreatDoor

/- Plain facts: the program's small numbers (strconv.Atoi, strconv.Itoa) and the reference's (digit by digit) are the same. No program in sight; no condition. -/
import Derived.Lib.AtoiAll
import Derived.Lib.ItoaNum
import Derived.Lib.ItoaMem
namespace Go.Proofs.YtibklpbnjpefnaaGreatDoor
open Go.Lib

def dec3 (n : Nat) : List UInt8 :=
  if n < 10 then [UInt8.ofNat (48 + n)] else if n < 100 then [UInt8.ofNat (48 + n / 10), UInt8.ofNat (48 + n % 10)]
  else [UInt8.ofNat (48 + n / 10 / 10), UInt8.ofNat (48 + n / 10 % 10), UInt8.ofNat (48 + n % 10)]
theorem decDigits_dec3 (n : Nat) (h : n < 1000) : decDigits n = dec3 n := by
  unfold dec3
  by_cases h1 : n < 10
  · rw [if_pos h1, decDigits_one h1]
  · rw [if_neg h1]
    by_cases h2 : n < 100
    · rw [if_pos h2, decDigits_two h1 h2]
    · rw [if_neg h2, decDigits, dif_neg h1, decDigits_two (by omega) (by omega)]; rfl
theorem itoa_dec3 (n : Nat) (h : n < 1000) : itoa (n : Int) = dec3 n := by rw [itoa_nonneg, decDigits_dec3 n h]
/-- what the program's 'decimal' tells -/
def decP (l : List UInt8) (most : Int) : Int :=
  match atoiAll l with
  | .ok n => if n < 0 ∨ most < n ∨ itoa n ≠ l then -1 else n
  | _ => -1
theorem round_all : ∀ n : Fin 256, atoiAll (dec3 n.val) = .ok (n.val : Int) := by decide +kernel
theorem decP_of (l : List UInt8) (most : Int) (n : Nat) (hm : most ≤ 255) (hn : (n : Int) ≤ most) (hl : l = dec3 n) : decP l most = n := by
  subst hl
  have hr := round_all ⟨n, by omega⟩
  simp only at hr
  unfold decP; rw [hr]
  simp only []
  rw [if_neg]
  rw [itoa_dec3 n (by omega)]
  simp; omega
theorem decP_none (l : List UInt8) (most : Int) (hm : most ≤ 255) (h : ∀ n : Nat, (n : Int) ≤ most → l ≠ dec3 n) : decP l most = -1 := by
  unfold decP
  cases hc : atoiAll l with
  | ok v =>
    simp only []
    by_cases hv : v < 0 ∨ most < v ∨ itoa v ≠ l
    · rw [if_pos hv]
    · exfalso
      have h0 : 0 ≤ v := by omega
      obtain ⟨n, rfl⟩ := Int.eq_ofNat_of_zero_le h0
      have hi : itoa (n : Int) = l := by
        by_cases hh : itoa (n : Int) = l
        · exact hh
        · exact absurd (.inr (.inr hh)) hv
      exact h n (by omega) (by rw [← hi, itoa_dec3 n (by omega)])
  | range => rfl
  | _ => rfl
/-- a digit -/
def isD (b : UInt8) : Bool := decide (48 ≤ b.toNat) && decide (b.toNat ≤ 57)
/-- the digits' number; none: a byte is no digit -/
def digF : Int → List UInt8 → Option Int
  | acc, [] => some acc
  | acc, b :: r => if isD b then digF (10 * acc + ((b.toNat : Int) - 48)) r else none
/-- what the reference's 'decimal' tells -/
def decR (l : List UInt8) (most : Int) : Int :=
  if l.length < 1 ∨ 3 < l.length ∨ (1 < l.length ∧ l.getD 0 0 = 48) then -1
  else match digF 0 l with
    | none => -1
    | some n => if most < n then -1 else n
theorem isD_iff (b : UInt8) : isD b = true ↔ ∃ d : Nat, d < 10 ∧ b = UInt8.ofNat (48 + d) := by
  constructor
  · intro h
    simp [isD] at h
    refine ⟨b.toNat - 48, by omega, ?_⟩
    apply UInt8.toNat_inj.1
    rw [UInt8.toNat_ofNat']; omega
  · rintro ⟨d, hd, rfl⟩
    simp [isD, UInt8.toNat_ofNat']; omega
theorem toNat48 (d : Nat) (h : d < 10) : (UInt8.ofNat (48 + d)).toNat = 48 + d := by rw [UInt8.toNat_ofNat']; omega
theorem digF_cons (acc : Int) (d : Nat) (h : d < 10) (r : List UInt8) : digF acc (UInt8.ofNat (48 + d) :: r) = digF (10 * acc + d) r := by
  rw [digF, if_pos ((isD_iff _).2 ⟨d, h, rfl⟩), toNat48 d h]
  congr 1; omega
theorem zero_iff (d : Nat) (h : d < 10) : UInt8.ofNat (48 + d) = 48 ↔ d = 0 := by
  constructor
  · intro e
    have := congrArg UInt8.toNat e
    rw [toNat48 d h] at this
    have h48 : (48 : UInt8).toNat = 48 := rfl
    omega
  · rintro rfl; rfl
theorem decR_of (l : List UInt8) (most : Int) (n : Nat) (hm : most ≤ 255) (hn : (n : Int) ≤ most) (hl : l = dec3 n) : decR l most = n := by
  subst hl
  unfold dec3 decR
  by_cases h1 : n < 10
  · rw [if_pos h1, if_neg (by simp), digF_cons _ _ h1, digF]
    simp only []
    rw [if_neg (by omega)]; omega
  · rw [if_neg h1]
    by_cases h2 : n < 100
    · rw [if_pos h2, if_neg (by rintro (h | h | ⟨_, h⟩) <;> first | (exact absurd ((zero_iff (n / 10) (by omega)).1 h) (by omega)) | (simp at h)), digF_cons _ _ (by omega), digF_cons _ _ (by omega), digF]
      simp only []
      rw [if_neg (by omega)]; omega
    · rw [if_neg h2, if_neg (by rintro (h | h | ⟨_, h⟩) <;> first | (exact absurd ((zero_iff (n / 10 / 10) (by omega)).1 h) (by omega)) | (simp at h)), digF_cons _ _ (by omega), digF_cons _ _ (by omega), digF_cons _ _ (by omega), digF]
      simp only []
      rw [if_neg (by omega)]; omega
theorem decR_none (l : List UInt8) (most : Int) (h : ∀ n : Nat, (n : Int) ≤ most → l ≠ dec3 n) : decR l most = -1 := by
  unfold decR
  split
  · rfl
  · rename_i hc
    match l, h, hc with
    | [], _, hc => simp at hc
    | [a], h, _ =>
      by_cases ha : isD a = true
      · obtain ⟨x, hx, rfl⟩ := (isD_iff a).1 ha
        rw [digF_cons _ _ hx, digF]
        simp only []
        by_cases hm : most < 10 * 0 + (x : Int)
        · rw [if_pos hm]
        · exact absurd (by simp [dec3, hx]) (h x (by omega))
      · rw [digF, if_neg ha]
    | [a, b], h, hc =>
      by_cases ha : isD a = true
      · obtain ⟨x, hx, rfl⟩ := (isD_iff a).1 ha
        rw [digF_cons _ _ hx]
        by_cases hb : isD b = true
        · obtain ⟨y, hy, rfl⟩ := (isD_iff b).1 hb
          rw [digF_cons _ _ hy, digF]
          simp only []
          have hx0 : x ≠ 0 := by intro e; subst e; exact hc (.inr (.inr ⟨by simp, rfl⟩))
          by_cases hm : most < 10 * (10 * 0 + (x : Int)) + y
          · rw [if_pos hm]
          · refine absurd ?_ (h (10 * x + y) (by omega))
            have e1 : (10 * x + y) / 10 = x := by omega
            have e2 : (10 * x + y) % 10 = y := by omega
            unfold dec3; rw [if_neg (by omega), if_pos (by omega), e1, e2]
        · rw [digF, if_neg hb]
      · rw [digF, if_neg ha]
    | [a, b, c], h, hc =>
      by_cases ha : isD a = true
      · obtain ⟨x, hx, rfl⟩ := (isD_iff a).1 ha
        rw [digF_cons _ _ hx]
        by_cases hb : isD b = true
        · obtain ⟨y, hy, rfl⟩ := (isD_iff b).1 hb
          rw [digF_cons _ _ hy]
          by_cases hcc : isD c = true
          · obtain ⟨z, hz, rfl⟩ := (isD_iff c).1 hcc
            rw [digF_cons _ _ hz, digF]
            simp only []
            have hx0 : x ≠ 0 := by intro e; subst e; exact hc (.inr (.inr ⟨by simp, rfl⟩))
            by_cases hm : most < 10 * (10 * (10 * 0 + (x : Int)) + y) + z
            · rw [if_pos hm]
            · refine absurd ?_ (h (100 * x + 10 * y + z) (by omega))
              have e1 : (100 * x + 10 * y + z) / 10 / 10 = x := by omega
              have e2 : (100 * x + 10 * y + z) / 10 % 10 = y := by omega
              have e3 : (100 * x + 10 * y + z) % 10 = z := by omega
              unfold dec3; rw [if_neg (by omega), if_neg (by omega), e1, e2, e3]
          · rw [digF, if_neg hcc]
        · rw [digF, if_neg hb]
      · rw [digF, if_neg ha]
    | a :: b :: c :: d :: r, _, hc => exact absurd (.inr (.inl (by simp))) hc
/-- THE PROGRAM's AND THE REFERENCE's ARE THE SAME. -/
theorem dec_eq (l : List UInt8) (most : Int) (hm : most ≤ 255) : decP l most = decR l most := by
  by_cases h : ∃ n : Nat, (n : Int) ≤ most ∧ l = dec3 n
  · obtain ⟨n, hn, hl⟩ := h
    rw [decP_of l most n hm hn hl, decR_of l most n hm hn hl]
  · have h' : ∀ n : Nat, (n : Int) ≤ most → l ≠ dec3 n := fun n hn hl => h ⟨n, hn, hl⟩
    rw [decP_none l most hm h', decR_none l most h']
theorem decR_range (l : List UInt8) (most : Int) (hm : most ≤ 255) : -1 ≤ decR l most ∧ decR l most ≤ 255 := by
  by_cases h : ∃ n : Nat, (n : Int) ≤ most ∧ l = dec3 n
  · obtain ⟨n, hn, hl⟩ := h
    rw [decR_of l most n hm hn hl]; omega
  · rw [decR_none l most (fun n hn hl => h ⟨n, hn, hl⟩)]; omega
end Go.Proofs.YtibklpbnjpefnaaGreatDoor

/- Plain facts: the reference's table of first bytes tells UTF-8 as the library's own check does; a text's characters are above the blank etc. -/
import Derived.Lib.DecodeN
import Derived.Lib.DecodeNEq
import Derived.Lib.TrimUEq
import Derived.Lib.ValidLaws
import Derived.Lib.AtoiAll
import Derived.Lib.ItoaNum
import Derived.Lib.ItoaMem
import Derived.Lib.Split
import Derived.Lib.SplitLaws
import Derived.Lib.IndexBytes
import Derived.Test.YtbpmmmnphpkdjaaGreatDoorWOwnI
import Derived.Maps.Range
import Derived.Maps.RangeRun
import Derived.Laws.IdiomRangeMap
import Derived.WalkKit
import Derived.Lib.TrimU
import Derived.Lib.QuoteLoop
import Derived.Test.YtbpmmmnphpkdjaaGreatDoorWRKind
namespace Go.Proofs.YtbpmmmnphpkdjaaGreatDoor
set_option linter.unusedSimpArgs false
set_option maxRecDepth 100000
set_option maxHeartbeats 20000000

/-- how many bytes stand behind the first of a character, the least and the greatest second one; -1: none -/
def qaT (b : Nat) : Int × Nat × Nat :=
 if b < 128 then (0, 0, 0) else if 194 ≤ b ∧ b ≤ 223 then (1, 128, 191) else if b = 224 then (2, 160, 191) else if b = 237 then (2, 128, 159)
 else if 225 ≤ b ∧ b ≤ 239 then (2, 128, 191) else if b = 240 then (3, 144, 191) else if b = 244 then (3, 128, 143) else if 241 ≤ b ∧ b ≤ 243 then (3, 128, 191) else (-1, 0, 0)
/-- how many bytes the character at the beginning has, by the table; none: it is broken -/
def qbW (len b0 b1 b2 b3 : Nat) : Option Nat :=
 if (qaT b0).1 < 0 ∨ (0 < (qaT b0).1 ∧ (len : Int) ≤ (qaT b0).1) then none
 else if 1 ≤ (qaT b0).1 ∧ (b1 < (qaT b0).2.1 ∨ (qaT b0).2.2 < b1) then none
 else if 2 ≤ (qaT b0).1 ∧ (b2 < 128 ∨ 191 < b2) then none
 else if 3 ≤ (qaT b0).1 ∧ (b3 < 128 ∨ 191 < b3) then none
 else some ((qaT b0).1.toNat + 1)
/-- the same by the library's tables -/
def qdH (len b0 b1 b2 b3 : Nat) : Option Nat :=
 if b0 < 128 then some 1 else Lib.checkN len b1 b2 b3 (Lib.firstT b0 % 8) (Lib.accLo (Lib.firstT b0 / 16)) (Lib.accHi (Lib.firstT b0 / 16))
theorem qiI (len b0 b1 b2 b3 : Nat) (h : b0 < 128) : qbW len b0 b1 b2 b3 = some 1 := by simp [qbW, qaT, h]
theorem qma (len b0 b1 b2 b3 : Nat) (n : Int) (sz lo hi : Nat) (hm : qaT b0 = (n, lo, hi)) (h0 : ¬ b0 < 128) (hs : Lib.firstT b0 % 8 = sz) (hn : (n = 1 ∧ sz = 2) ∨ (n = 2 ∧ sz = 3) ∨ (n = 3 ∧ sz = 4))
  (hlo : Lib.accLo (Lib.firstT b0 / 16) = lo) (hhi : Lib.accHi (Lib.firstT b0 / 16) = hi) : qbW len b0 b1 b2 b3 = qdH len b0 b1 b2 b3 := by
 unfold qbW qdH Lib.checkN
 rw [hm, hs, hlo, hhi, if_neg h0]
 rcases hn with ⟨rfl, rfl⟩ | ⟨rfl, rfl⟩ | ⟨rfl, rfl⟩ <;> simp only [] <;> repeat' split
 all_goals first | rfl | (exfalso; omega) | simp_all
 all_goals omega
theorem qgw (len b0 b1 b2 b3 : Nat) (hm : qaT b0 = (-1, 0, 0)) (h0 : ¬ b0 < 128) (hs : Lib.firstT b0 = 241) : qbW len b0 b1 b2 b3 = qdH len b0 b1 b2 b3 := by
 unfold qbW qdH Lib.checkN
 rw [hm, hs, if_neg h0]; simp
theorem qmi (len b0 b1 b2 b3 : Nat) : qbW len b0 b1 b2 b3 = qdH len b0 b1 b2 b3 := by
 by_cases h0 : b0 < 128
 ·rw [qiI _ _ _ _ _ h0]; simp [qdH, h0]
 by_cases c0 : b0 < 194
 ·exact qgw _ _ _ _ _ (by unfold qaT; (repeat' split) <;> first | rfl | omega) h0 (by unfold Lib.firstT; (repeat' split) <;> first | rfl | omega)
 by_cases c9 : 245 ≤ b0
 ·exact qgw _ _ _ _ _ (by unfold qaT; (repeat' split) <;> first | rfl | omega) h0 (by unfold Lib.firstT; (repeat' split) <;> first | rfl | omega)
 have d : ∀ (f : Nat) (n : Int) (sz lo hi : Nat), Lib.firstT b0 = f → qaT b0 = (n, lo, hi) → f % 8 = sz → (n = 1 ∧ sz = 2) ∨ (n = 2 ∧ sz = 3) ∨ (n = 3 ∧ sz = 4) → Lib.accLo (f / 16) = lo → Lib.accHi (f / 16) = hi → qbW len b0 b1 b2 b3 = qdH len b0 b1 b2 b3 :=
  fun f n sz lo hi hf hm hs hn hlo hhi => qma _ _ _ _ _ n sz lo hi hm h0 (by rw [hf, hs]) hn (by rw [hf, hlo]) (by rw [hf, hhi])
 by_cases c1 : b0 < 224
 ·exact d 2 1 2 128 191 (Lib.firstT_C2 ⟨by omega, c1⟩) (by unfold qaT; (repeat' split) <;> first | rfl | omega) rfl (by omega) rfl rfl
 by_cases c2 : b0 = 224
 ·subst c2; exact d 19 2 3 160 191 rfl rfl rfl (by omega) rfl rfl
 by_cases c4 : b0 = 237
 ·subst c4; exact d 35 2 3 128 159 rfl rfl rfl (by omega) rfl rfl
 by_cases c5 : b0 < 240
 ·exact d 3 2 3 128 191 (Lib.firstT_E1 (by omega)) (by unfold qaT; (repeat' split) <;> first | rfl | omega) rfl (by omega) rfl rfl
 by_cases c6 : b0 = 240
 ·subst c6; exact d 52 3 4 144 191 rfl rfl rfl (by omega) rfl rfl
 by_cases c8 : b0 = 244
 ·subst c8; exact d 68 3 4 128 143 rfl rfl rfl (by omega) rfl rfl
 exact d 4 3 4 128 191 (Lib.firstT_F1 (by omega)) (by unfold qaT; (repeat' split) <;> first | rfl | omega) rfl (by omega) rfl rfl

theorem qdh (s : ByteArray) (p k : Nat) : (s.data.toList.drop p).getD k 0 = s.get! (p + k) := by
 rw [List.getD_eq_getElem?_getD, List.getElem?_drop]
 show _ = s.data[p + k]!
 by_cases h : p + k < s.data.size
 ·rw [getElem!_pos s.data _ h, List.getElem?_eq_getElem (by simpa using h)]; simp
 ·rw [getElem!_neg s.data _ h, List.getElem?_eq_none (by simpa using h)]; rfl
/-- is the text right from a place on? -/
def qaM (s : ByteArray) (p : Nat) : Bool := Lib.validD (s.data.toList.drop p)
theorem qgT (s : ByteArray) (p : Nat) (h : ¬ p < s.size) : qaM s p = true := by
 unfold qaM; rw [List.drop_eq_nil_of_le (by simpa using h)]; exact Lib.validD_nil
/-- ONE CHARACTER OF THE REFERENCE's CHECK. -/
theorem qgb (s : ByteArray) (p : Nat) (h : p < s.size) :
  qaM s p = match qbW (s.size - p) (s.get! p).toNat (s.get! (p + 1)).toNat (s.get! (p + 2)).toNat (s.get! (p + 3)).toNat with | none => false | some k => qaM s (p + k) := by
 rw [qmi]; unfold qdH qaM
 have hlen : (s.data.toList.drop p).length = s.size - p := by simp
 have hne : s.data.toList.drop p ≠ [] := by
  intro h'; have : (s.data.toList.drop p).length = 0 := by rw [h']; rfl
  omega
 have g0 : (s.data.toList.drop p).getD 0 0 = s.get! p := qdh s p 0
 by_cases h0 : (s.get! p).toNat < 128
 ·rw [if_pos h0]
  have hc : s.data.toList.drop p = s.get! p :: s.data.toList.drop (p + 1) := by
   rw [List.drop_eq_getElem_cons (by simpa using h)]
   congr 1
   show _ = s.data[p]!
   rw [getElem!_pos s.data p h]; simp
  rw [hc, Lib.validD_cons _ _ h0]
 ·rw [if_neg h0, Lib.validD_lead _ hne (by rw [g0]; omega), g0, qdh, qdh, qdh, hlen]
  simp only [List.drop_drop]
  generalize Lib.checkN _ _ _ _ _ _ _ = o
  cases o <;> rfl

/-! ### the letters of a scheme, of an id -/
/-- may a byte (or a character) stand in a text? -/
def okB (b : Nat) : Bool := decide (33 ≤ b) && decide (b ≠ 127) && decide (b ≠ 44)
/-- all from a place on -/
def qbn (s : ByteArray) (p : Nat) : Bool := (s.data.toList.drop p).all (fun b => okB b.toNat)
theorem qfL (s : ByteArray) (p : Nat) (h : ¬ p < s.size) : qbn s p = true := by
 unfold qbn; rw [List.drop_eq_nil_of_le (by simpa using h)]; rfl
theorem qbv (s : ByteArray) (p : Nat) (h : p < s.size) : qbn s p = (okB (s.get! p).toNat && qbn s (p + 1)) := by
 have hc : s.data.toList.drop p = s.get! p :: s.data.toList.drop (p + 1) := by
  rw [List.drop_eq_getElem_cons (by simpa using h)]
  congr 1
  show _ = s.data[p]!
  rw [getElem!_pos s.data p h]; simp
 unfold qbn; rw [hc]; rfl
theorem qcp (b : Nat) (h : 128 ≤ b) : okB b = true := by simp [okB]; omega
theorem qcY (n b0 b1 b2 b3 : Nat) (h : b0 < 128) : Lib.decodeN n b0 b1 b2 b3 = (b0, 1) := by simp [Lib.decodeN, h]
theorem qdB (n b0 b1 b2 b3 : Nat) (h : ¬ b0 < 128) : 128 ≤ (Lib.decodeN n b0 b1 b2 b3).1 ∧ (1 < (Lib.decodeN n b0 b1 b2 b3).2 → 128 ≤ b1 ∧ 1 < n) ∧ (2 < (Lib.decodeN n b0 b1 b2 b3).2 → 128 ≤ b2 ∧ 2 < n) ∧ (3 < (Lib.decodeN n b0 b1 b2 b3).2 → 128 ≤ b3 ∧ 3 < n)
  ∧ (Lib.decodeN n b0 b1 b2 b3).2 ≤ 4 ∧ 1 ≤ (Lib.decodeN n b0 b1 b2 b3).2 := by
 unfold Lib.decodeN; rw [if_neg h]; repeat' split
 all_goals (refine ⟨?_, ?_, ?_, ?_, ?_, ?_⟩ <;> simp <;> omega)
/-- ONE CHARACTER OF THE PROGRAM's CHECK. -/
theorem qir (s : ByteArray) (p : Nat) (h : p < s.size) : qbn s p = (okB (Utf8.decode s p).1 && qbn s (p + (Utf8.decode s p).2)) := by
 rw [Lib.decode_at]
 by_cases h0 : (s.get! p).toNat < 128
 ·rw [qcY _ _ _ _ _ h0]; exact qbv s p h
 ·have hh := qdB (s.size - p) (s.get! p).toNat (s.get! (p + 1)).toNat (s.get! (p + 2)).toNat (s.get! (p + 3)).toNat h0
  revert hh
  generalize Lib.decodeN (s.size - p) (s.get! p).toNat (s.get! (p + 1)).toNat (s.get! (p + 2)).toNat (s.get! (p + 3)).toNat = d
  obtain ⟨r, w⟩ := d
  simp only []
  rintro ⟨h1, h2, h3, h4, h5, h6⟩
  rw [qcp _ h1, qbv s p h, qcp _ (by omega), Bool.true_and, Bool.true_and]
  have : w = 1 ∨ w = 2 ∨ w = 3 ∨ w = 4 := by omega
  rcases this with rfl | rfl | rfl | rfl
  ·rfl
  ·rw [qbv s (p + 1) (by omega), qcp _ (h2 (by omega)).1, Bool.true_and]
  ·rw [qbv s (p + 1) (by omega), qcp _ (h2 (by omega)).1, Bool.true_and, qbv s (p + 1 + 1) (by omega), qcp _ (h3 (by omega)).1, Bool.true_and]
  ·rw [qbv s (p + 1) (by omega), qcp _ (h2 (by omega)).1, Bool.true_and, qbv s (p + 1 + 1) (by omega), qcp _ (h3 (by omega)).1, Bool.true_and, qbv s (p + 1 + 1 + 1) (by omega), qcp _ (h4 (by omega)).1, Bool.true_and]
/-- may a text be a scheme, an id? -/
def qaN (s : ByteArray) : Bool := decide (1 ≤ s.size) && decide (s.size ≤ 256) && qaM s 0 && qbn s 0
open Go.Lib

def dec3 (n : Nat) : List UInt8 :=
 if n < 10 then [UInt8.ofNat (48 + n)] else if n < 100 then [UInt8.ofNat (48 + n / 10), UInt8.ofNat (48 + n % 10)]
 else [UInt8.ofNat (48 + n / 10 / 10), UInt8.ofNat (48 + n / 10 % 10), UInt8.ofNat (48 + n % 10)]
theorem qgd (n : Nat) (h : n < 1000) : decDigits n = dec3 n := by
 unfold dec3
 by_cases h1 : n < 10
 ·rw [if_pos h1, decDigits_one h1]
 ·rw [if_neg h1]
  by_cases h2 : n < 100
  ·rw [if_pos h2, decDigits_two h1 h2]
  ·rw [if_neg h2, decDigits, dif_neg h1, decDigits_two (by omega) (by omega)]; rfl
theorem qgL (n : Nat) (h : n < 1000) : itoa (n : Int) = dec3 n := by rw [itoa_nonneg, qgd n h]
/-- what the program's 'decimal' tells -/
def decP (l : List UInt8) (most : Int) : Int :=
 match atoiAll l with
 | .ok n => if n < 0 ∨ most < n ∨ itoa n ≠ l then -1 else n
 | _ => -1
theorem qks : ∀ n : Fin 256, atoiAll (dec3 n.val) = .ok (n.val : Int) := by decide +kernel
theorem qnC (l : List UInt8) (most : Int) (n : Nat) (hm : most ≤ 255) (hn : (n : Int) ≤ most) (hl : l = dec3 n) : decP l most = n := by
 subst hl
 have hr := qks ⟨n, by omega⟩
 simp only at hr
 unfold decP; rw [hr]
 simp only []
 rw [if_neg]
 rw [qgL n (by omega)]
 simp; omega
theorem qkm (l : List UInt8) (most : Int) (hm : most ≤ 255) (h : ∀ n : Nat, (n : Int) ≤ most → l ≠ dec3 n) : decP l most = -1 := by
 unfold decP
 cases hc : atoiAll l with
 | ok v =>
  simp only []
  by_cases hv : v < 0 ∨ most < v ∨ itoa v ≠ l
  ·rw [if_pos hv]
  ·exfalso
   have h0 : 0 ≤ v := by omega
   obtain ⟨n, rfl⟩ := Int.eq_ofNat_of_zero_le h0
   have hi : itoa (n : Int) = l := by
    by_cases hh : itoa (n : Int) = l
    ·exact hh
    ·exact absurd (.inr (.inr hh)) hv
   exact h n (by omega) (by rw [← hi, qgL n (by omega)])
 | range => rfl
 | _ => rfl
/-- a digit -/
def isD (b : UInt8) : Bool := decide (48 ≤ b.toNat) && decide (b.toNat ≤ 57)
/-- the digits' number; none: a byte is no digit -/
def digF : Int → List UInt8 → Option Int
 | acc, [] => some acc
 | acc, b :: r => if isD b then digF (10 * acc + ((b.toNat : Int) - 48)) r else none
/-- what the reference's 'decimal' tells -/
def decR (l : List UInt8) (most : Int) : Int :=
 if l.length < 1 ∨ 3 < l.length ∨ (1 < l.length ∧ l.getD 0 0 = 48) then -1
 else match digF 0 l with
  | none => -1
  | some n => if most < n then -1 else n
theorem qcS (b : UInt8) : isD b = true ↔ ∃ d : Nat, d < 10 ∧ b = UInt8.ofNat (48 + d) := by
 constructor
 ·intro h
  simp [isD] at h
  refine ⟨b.toNat - 48, by omega, ?_⟩
  apply UInt8.toNat_inj.1
  rw [UInt8.toNat_ofNat']; omega
 ·rintro ⟨d, hd, rfl⟩
  simp [isD, UInt8.toNat_ofNat']; omega
theorem qiY (d : Nat) (h : d < 10) : (UInt8.ofNat (48 + d)).toNat = 48 + d := by rw [UInt8.toNat_ofNat']; omega
theorem qbs (acc : Int) (d : Nat) (h : d < 10) (r : List UInt8) : digF acc (UInt8.ofNat (48 + d) :: r) = digF (10 * acc + d) r := by
 rw [digF, if_pos ((qcS _).2 ⟨d, h, rfl⟩), qiY d h]
 congr 1; omega
theorem qhu (d : Nat) (h : d < 10) : UInt8.ofNat (48 + d) = 48 ↔ d = 0 := by
 constructor
 ·intro e
  have := congrArg UInt8.toNat e
  rw [qiY d h] at this
  have h48 : (48 : UInt8).toNat = 48 := rfl
  omega
 ·rintro rfl; rfl
theorem qjd (l : List UInt8) (most : Int) (n : Nat) (hm : most ≤ 255) (hn : (n : Int) ≤ most) (hl : l = dec3 n) : decR l most = n := by
 subst hl
 unfold dec3 decR
 by_cases h1 : n < 10
 ·rw [if_pos h1, if_neg (by simp), qbs _ _ h1, digF]
  simp only []
  rw [if_neg (by omega)]; omega
 ·rw [if_neg h1]
  by_cases h2 : n < 100
  ·rw [if_pos h2, if_neg (by rintro (h | h | ⟨_, h⟩) <;> first | (exact absurd ((qhu (n / 10) (by omega)).1 h) (by omega)) | (simp at h)), qbs _ _ (by omega), qbs _ _ (by omega), digF]
   simp only []
   rw [if_neg (by omega)]; omega
  ·rw [if_neg h2, if_neg (by rintro (h | h | ⟨_, h⟩) <;> first | (exact absurd ((qhu (n / 10 / 10) (by omega)).1 h) (by omega)) | (simp at h)), qbs _ _ (by omega), qbs _ _ (by omega), qbs _ _ (by omega), digF]
   simp only []
   rw [if_neg (by omega)]; omega
theorem qgC (l : List UInt8) (most : Int) (h : ∀ n : Nat, (n : Int) ≤ most → l ≠ dec3 n) : decR l most = -1 := by
 unfold decR
 split
 ·rfl
 ·rename_i hc
  match l, h, hc with
  | [], _, hc => simp at hc
  | [a], h, _ =>
   by_cases ha : isD a = true
   ·obtain ⟨x, hx, rfl⟩ := (qcS a).1 ha
    rw [qbs _ _ hx, digF]
    simp only []
    by_cases hm : most < 10 * 0 + (x : Int)
    ·rw [if_pos hm]
    ·exact absurd (by simp [dec3, hx]) (h x (by omega))
   ·rw [digF, if_neg ha]
  | [a, b], h, hc =>
   by_cases ha : isD a = true
   ·obtain ⟨x, hx, rfl⟩ := (qcS a).1 ha
    rw [qbs _ _ hx]
    by_cases hb : isD b = true
    ·obtain ⟨y, hy, rfl⟩ := (qcS b).1 hb
     rw [qbs _ _ hy, digF]
     simp only []
     have hx0 : x ≠ 0 := by intro e; subst e; exact hc (.inr (.inr ⟨by simp, rfl⟩))
     by_cases hm : most < 10 * (10 * 0 + (x : Int)) + y
     ·rw [if_pos hm]
     ·refine absurd ?_ (h (10 * x + y) (by omega))
      have e1 : (10 * x + y) / 10 = x := by omega
      have e2 : (10 * x + y) % 10 = y := by omega
      unfold dec3; rw [if_neg (by omega), if_pos (by omega), e1, e2]
    ·rw [digF, if_neg hb]
   ·rw [digF, if_neg ha]
  | [a, b, c], h, hc =>
   by_cases ha : isD a = true
   ·obtain ⟨x, hx, rfl⟩ := (qcS a).1 ha
    rw [qbs _ _ hx]
    by_cases hb : isD b = true
    ·obtain ⟨y, hy, rfl⟩ := (qcS b).1 hb
     rw [qbs _ _ hy]
     by_cases hcc : isD c = true
     ·obtain ⟨z, hz, rfl⟩ := (qcS c).1 hcc
      rw [qbs _ _ hz, digF]
      simp only []
      have hx0 : x ≠ 0 := by intro e; subst e; exact hc (.inr (.inr ⟨by simp, rfl⟩))
      by_cases hm : most < 10 * (10 * (10 * 0 + (x : Int)) + y) + z
      ·rw [if_pos hm]
      ·refine absurd ?_ (h (100 * x + 10 * y + z) (by omega))
       have e1 : (100 * x + 10 * y + z) / 10 / 10 = x := by omega
       have e2 : (100 * x + 10 * y + z) / 10 % 10 = y := by omega
       have e3 : (100 * x + 10 * y + z) % 10 = z := by omega
       unfold dec3; rw [if_neg (by omega), if_neg (by omega), e1, e2, e3]
     ·rw [digF, if_neg hcc]
    ·rw [digF, if_neg hb]
   ·rw [digF, if_neg ha]
  | a :: b :: c :: d :: r, _, hc => exact absurd (.inr (.inl (by simp))) hc
/-- THE PROGRAM's AND THE REFERENCE's ARE THE SAME. -/
theorem qfH (l : List UInt8) (most : Int) (hm : most ≤ 255) : decP l most = decR l most := by
 by_cases h : ∃ n : Nat, (n : Int) ≤ most ∧ l = dec3 n
 ·obtain ⟨n, hn, hl⟩ := h
  rw [qnC l most n hm hn hl, qjd l most n hm hn hl]
 ·have h' : ∀ n : Nat, (n : Int) ≤ most → l ≠ dec3 n := fun n hn hl => h ⟨n, hn, hl⟩
  rw [qkm l most hm h', qgC l most h']
theorem qfI (l : List UInt8) (most : Int) (hm : most ≤ 255) : -1 ≤ decR l most ∧ decR l most ≤ 255 := by
 by_cases h : ∃ n : Nat, (n : Int) ≤ most ∧ l = dec3 n
 ·obtain ⟨n, hn, hl⟩ := h
  rw [qjd l most n hm hn hl]; omega
 ·rw [qgC l most (fun n hn hl => h ⟨n, hn, hl⟩)]; omega
open Go.Lib

/-- how far it is to the first byte of that kind (to the end, if there is none) -/
def qav (c : UInt8) : List UInt8 → Nat
 | [] => 0
 | b :: r => if b = c then 0 else qav c r + 1
theorem qdf (c : UInt8) : ∀ l : List UInt8, qav c l ≤ l.length
 | [] => Nat.le_refl _
 | b :: r => by have := qdf c r; unfold qav; split <;> simp <;> omega
theorem qdG (c : UInt8) : ∀ l : List UInt8, index l [c] = if qav c l = l.length then -1 else (qav c l : Int)
 | [] => rfl
 | b :: r => by
  have ih := qdG c r
  have hle := qdf c r
  unfold index qav
  by_cases h : b = c
  ·subst h; simp
  ·have hp : ([c].isPrefixOf (b :: r)) = false := by simp [List.isPrefixOf, Ne.symm h]
   rw [hp, if_neg h, ih]
   by_cases h2 : qav c r = r.length
   ·simp [h2]
   ·have h3 : ¬ ((qav c r : Int) = -1) := by omega
    simp [h2]
    try omega
theorem qeB (c : UInt8) (l : List UInt8) (h : qav c l = l.length) : split l [c] = [l] := by
 have hi : index l [c] = -1 := by rw [qdG, if_pos h]
 unfold split; rw [count_miss hi]; rfl
theorem qeg (c : UInt8) (l : List UInt8) (h : qav c l ≠ l.length) : split l [c] = l.take (qav c l) :: split (l.drop (qav c l + 1)) [c] := by
 have hi : index l [c] = (qav c l : Nat) := by rw [qdG, if_neg h]
 unfold split
 rw [count_hit (by simp) hi, Nat.add_comm 1, splitK, hi]
 rw [if_neg (by simp)]
 simp
theorem qlQ (c : UInt8) (l : List UInt8) : 1 ≤ (split l [c]).length := by
 by_cases h : qav c l = l.length
 ·rw [qeB c l h]; simp
 ·rw [qeg c l h]; simp
/-- the pieces' numbers, one behind the other -/
def qcG (st : Int → Int → Int) : Int → List (List UInt8) → Option Int
 | acc, [] => some acc
 | acc, p :: r => if decP p 255 < 0 then none else qcG st (st acc (decP p 255)) r
/-- the program's address -/
def qjO (st : Int → Int → Int) (l : List UInt8) : Option Int := if (split l [46]).length ≠ 4 then none else qcG st 0 (split l [46])
/-- the reference's: so many numbers are to come behind this one -/
def qbN (st : Int → Int → Int) : Nat → Int → List UInt8 → Option Int
 | 0, acc, l => if decR (l.take (qav 46 l)) 255 < 0 ∨ qav 46 l ≠ l.length then none else some (st acc (decR (l.take (qav 46 l)) 255))
 | k + 1, acc, l => if decR (l.take (qav 46 l)) 255 < 0 ∨ qav 46 l = l.length then none else qbN st k (st acc (decR (l.take (qav 46 l)) 255)) (l.drop (qav 46 l + 1))
theorem qfT (st : Int → Int → Int) : ∀ (k : Nat) (acc : Int) (l : List UInt8), (if (split l [46]).length ≠ k + 1 then none else qcG st acc (split l [46])) = qbN st k acc l
 | 0, acc, l => by
  unfold qbN
  by_cases h : qav 46 l = l.length
  ·rw [qeB 46 l h, h, List.take_length]
   simp only [qcG, qfH l 255 (by omega)]
   by_cases hd : decR l 255 < 0
   ·simp [hd]
   ·simp [hd]
  ·rw [qeg 46 l h, if_pos (by have := qlQ 46 (l.drop (qav 46 l + 1)); simp only [List.length_cons]; omega), if_pos (.inr h)]
 | k + 1, acc, l => by
  unfold qbN
  by_cases h : qav 46 l = l.length
  ·rw [qeB 46 l h, if_pos (by simp), if_pos (.inr h)]
  ·rw [qeg 46 l h]
   have ih := qfT st k (st acc (decR (l.take (qav 46 l)) 255)) (l.drop (qav 46 l + 1))
   by_cases hd : decR (l.take (qav 46 l)) 255 < 0
   ·have e1 : ∀ X : Option Int, (if decR (l.take (qav 46 l)) 255 < 0 ∨ qav 46 l = l.length then none else X) = none := fun X => if_pos (.inl hd)
    rw [e1]
    simp only [qcG, qfH _ 255 (show (255 : Int) ≤ 255 by omega), if_pos hd]
    split <;> rfl
   ·have e1 : ∀ X : Option Int, (if decR (l.take (qav 46 l)) 255 < 0 ∨ qav 46 l = l.length then none else X) = X := fun X => if_neg (by intro hh; rcases hh with hh | hh; exact hd hh; exact h hh)
    rw [e1, ← ih]
    have e2 : qcG st acc (l.take (qav 46 l) :: split (l.drop (qav 46 l + 1)) [46]) = qcG st (st acc (decR (l.take (qav 46 l)) 255)) (split (l.drop (qav 46 l + 1)) [46]) := by
     simp only [qcG, qfH _ 255 (show (255 : Int) ≤ 255 by omega), if_neg hd]
    rw [e2, List.length_cons]
    by_cases hl : (split (l.drop (qav 46 l + 1)) [46]).length = k + 1
    ·have a1 : ¬ ((split (l.drop (qav 46 l + 1)) [46]).length + 1 ≠ k + 1 + 1) := by omega
     have a2 : ¬ ((split (l.drop (qav 46 l + 1)) [46]).length ≠ k + 1) := by omega
     rw [if_neg a1, if_neg a2]
    ·have a1 : ((split (l.drop (qav 46 l + 1)) [46]).length + 1 ≠ k + 1 + 1) := by omega
     rw [if_pos a1, if_pos hl]
/-- THE PROGRAM's ADDRESS AND THE REFERENCE's ARE THE SAME. -/
theorem qiW (st : Int → Int → Int) (l : List UInt8) : qjO st l = qbN st 3 0 l := qfT st 3 0 l
open Go.RowKit Go.MapKept Go.Maps
open Go.ChangeMaps (setBlock heap_setBlock_same heap_setBlock_other)
/-- block r ranges over block b, a map of these; 'left' says who is still to come -/
def RgI (w : World) (b r : Nat) (l : List (Int × Value)) (left : Int → Bool) : Prop :=
 r ≠ b ∧ ∃ es clock since seen c0, w.heap[b]? = some (.map es clock) ∧ Stamped es clock ∧ es.toList.map (fun e => (e.key, e.val)) = l.map (fun x => ((.int .i64 x.1, x.2) : Value × Value)) ∧
  w.heap[r]? = some (.mapIter (some b) since seen c0) ∧ (∀ x ∈ es.toList, x.born < since) ∧ since ≤ c0 ∧ since ≤ clock ∧ ∀ x ∈ es.toList, ∀ i, x.key = .int .i64 i → left i = !seen.contains x.born
theorem qhk {α β : Type} (f : α → β) : ∀ {l : List α}, l.Pairwise (fun x y => f x ≠ f y) → ∀ {x y : α}, x ∈ l → y ∈ l → f x = f y → x = y
 | a :: l, h, x, y, hx, hy, e => by
  rw [List.pairwise_cons] at h
  rcases List.mem_cons.1 hx with h1 | h1 <;> rcases List.mem_cons.1 hy with h2 | h2
  ·rw [h1, h2]
  ·subst h1; exact absurd e (h.1 y h2)
  ·subst h2; exact absurd e.symm (h.1 x h1)
  ·exact qhk f h.2 h1 h2 e
theorem RgI.keep {w w' : World} {b r : Nat} {l : List (Int × Value)} {left : Int → Bool} (h : RgI w b r l left) (h1 : w'.heap[b]? = w.heap[b]?) (h2 : w'.heap[r]? = w.heap[r]?) : RgI w' b r l left := by
 obtain ⟨hne, es, clock, since, seen, c0, a1, a2, a3, a4, a5⟩ := h
 exact ⟨hne, es, clock, since, seen, c0, h1.trans a1, a2, a3, h2.trans a4, a5⟩
theorem RgI.next {w : World} {b r : Nat} {l : List (Int × Value)} {left : Int → Bool} (h : RgI w b r l left) :
  ((∀ p ∈ l, left p.1 = false) ∧ ∀ ty, (Instr.next (.pointer (some ⟨r, 0, none⟩)) false ty).run Tryz.prog w = .ok (.tuple #[.bool false]) w) ∨
  ∃ i v, (i, v) ∈ l ∧ left i = true ∧ ∃ w', (∀ ty, (Instr.next (.pointer (some ⟨r, 0, none⟩)) false ty).run Tryz.prog w = .ok (.tuple #[.bool true, .int .i64 i, v]) w') ∧ RgI w' b r l (fun j => left j && decide (j ≠ i)) ∧ w.grownBy w' (some r) ∧ w'.heap.size = w.heap.size ∧ w'.rangeLeft b r < w.rangeLeft b r ∧
   (Instr.entry (.pointer (some ⟨r, 0, none⟩))).run Tryz.prog w' = .ok (.tuple #[.int .i64 i, v]) w' := by
 obtain ⟨hne, es, clock, since, seen, c0, hb, hs, hl, hr, hold, hsc, hsk, hleft⟩ := h
 obtain ⟨_, hbn, hkn⟩ := (stamped_iff es clock).1 hs
 have hbn' : es.toList.Pairwise (fun x y => x.born ≠ y.born) := by
  have := hbn; unfold List.Nodup at this; rwa [List.pairwise_map] at this
 have key : ∀ x ∈ es.toList, ∃ i v, x.key = .int .i64 i ∧ x.val = v ∧ (i, v) ∈ l := fun x hx => by
  have hm : (x.key, x.val) ∈ l.map (fun x => ((.int .i64 x.1, x.2) : Value × Value)) := by rw [← hl]; exact List.mem_map.2 ⟨x, hx, rfl⟩
  obtain ⟨p, hp, e⟩ := List.mem_map.1 hm
  injection e with e1 e2
  exact ⟨p.1, p.2, e1.symm, e2.symm, hp⟩
 have back : ∀ p ∈ l, ∃ x ∈ es.toList, x.key = .int .i64 p.1 := fun p hp => by
  have hm : ((.int .i64 p.1, p.2) : Value × Value) ∈ es.toList.map (fun e => (e.key, e.val)) := by rw [hl]; exact List.mem_map.2 ⟨p, hp, rfl⟩
  obtain ⟨x, hx, e⟩ := List.mem_map.1 hm
  injection e with e1 e2
  exact ⟨x, hx, e1⟩
 by_cases hz : (leftOf es seen).size = 0
 ·left
  refine ⟨fun p hp => ?_, fun ty => ?_⟩
  ·obtain ⟨x, hx, e1⟩ := back p hp
   rw [hleft x hx p.1 e1, all_seen es seen hz x hx, Bool.not_true]
  ·rcases run_next_at (P := Tryz.prog) w ty r b since c0 seen es clock hr hb hold hsc with ⟨_, hrun⟩ | ⟨e, he, _⟩
   ·exact hrun
   ·have : (leftOf es seen).toList = [] := by rw [Array.eq_empty_of_size_eq_zero hz]
    rw [this] at he; cases he
 ·right
  rcases run_next_at (P := Tryz.prog) w 0 r b since c0 seen es clock hr hb hold hsc with ⟨h0, _⟩ | ⟨e, he, w1, hal, hrun⟩
  ·exact absurd h0 hz
  ·obtain ⟨hem, hes⟩ := mem_left he
   obtain ⟨i, v, ek, ev, hm⟩ := key e hem
   have hr1 : w1.heap[r]? = some (.mapIter (some b) since seen c0) := by rcases hal with rfl | rfl <;> exact hr
   have hb1 : w1.heap[b]? = some (.map es clock) := by rcases hal with rfl | rfl <;> exact hb
   have hset := heap_set (o' := .mapIter (some b) since (seen.push e.born) clock) hr1
   have hb' : (setBlock w1 r (.mapIter (some b) since (seen.push e.born) clock)).heap[b]? = some (.map es clock) := (hset.2 b (fun e1 => hne e1.symm)).trans hb1
   rw [ek, ev] at hrun
   refine ⟨i, v, hm, by rw [hleft e hem i ek, hes]; rfl, _, fun ty => ?_, ⟨hne, es, clock, since, seen.push e.born, clock, hb', hs, hl, hset.1, hold, hsk, hsk, fun x hx j hj => ?_⟩, ?_, ?_, ?_, ?_⟩
   ·exact hrun
   ·show (left j && decide (j ≠ i)) = _
    rw [hleft x hx j hj, contains_push]
    by_cases hji : j = i
    ·have hxe : x = e := qhk (fun z : MapEntry => z.key) hkn hx hem (by rw [hj, ek, hji])
     subst hxe
     simp [hji]
    ·have hb2 : (x.born == e.born) = false := beq_eq_false_iff_ne.2 fun hbb => hji (by
      have hxe : x = e := qhk (fun z : MapEntry => z.born) hbn' hx hem hbb
      subst hxe
      rw [ek] at hj
      injection hj with _ hj
      exact hj.symm)
     rw [hb2, decide_eq_true hji]
     simp
   ·rcases hal with rfl | rfl <;> exact ⟨rfl, rfl, rfl, by simp [setBlock], fun i _ hi => hset.2 i (fun e1 => hi (by rw [e1]))⟩
   ·rcases hal with rfl | rfl <;> simp [setBlock]
   ·unfold World.rangeLeft
    have hset1 : (setBlock w1 r (.mapIter (some b) since (seen.push e.born) clock)).heap[r]? = some (.mapIter (some b) since (seen.push e.born) clock) := hset.1
    rw [hb', hset1, hb, hr]
    exact left_shrinks es seen e he
   ·have := run_entry_at (P := Tryz.prog) _ r b since seen es clock e hset.1 hb' hem hbn
    rwa [ek, ev] at this
/-- a voter: its group, its weight -/
abbrev VtV := Int × Int
def gsum : List VtV → Int → Int
 | [], _ => 0
 | v :: r, g => (if v.1 = g then v.2 else 0) + gsum r g
/-- what those who have it weigh in a group; the first voter's number is i -/
def msum (have_ : List Int) : Nat → List VtV → Int → Int
 | _, [], _ => 0
 | i, v :: r, g => (if v.1 = g ∧ (i : Int) ∈ have_ then v.2 else 0) + msum have_ (i + 1) r g
def wOk (v : VtV) : Prop := 0 ≤ v.2 ∧ v.2 ≤ 4294967296
def fitB (l : List VtV) : Bool := l.all (fun v => decide (0 ≤ v.2 ∧ v.2 ≤ 4294967296)) && l.any (fun v => decide (0 < v.2)) && decide (l.length ≤ 9)
/-- the groups, each once -/
def dk : List VtV → List Int
 | [] => []
 | v :: r => if v.1 ∈ dk r then dk r else v.1 :: dk r
def gk (l : List VtV) : List Int := (dk l).filter (fun g => decide (0 < gsum l g))
def wonB (l : List VtV) (have_ : List Int) (g : Int) : Bool := decide (gsum l g < 2 * msum have_ 0 l g)
def qbd (l : List VtV) (have_ : List Int) : Bool := fitB l && decide ((gk l).length < 2 * (gk l).countP (wonB l have_))

theorem qfn : ∀ l, (dk l).Nodup
 | [] => List.nodup_nil
 | v :: r => by
  unfold dk
  split
  ·exact qfn r
  ·rename_i h; exact List.nodup_cons.2 ⟨h, qfn r⟩
theorem qho : ∀ (l : List VtV) (g : Int), g ∈ dk l ↔ ∃ v ∈ l, v.1 = g
 | [], g => by simp [dk]
 | v :: r, g => by
  have ih := qho r g
  unfold dk
  split
  ·rename_i h
   rw [ih]
   constructor
   ·rintro ⟨x, hx, e⟩; exact ⟨x, List.mem_cons_of_mem _ hx, e⟩
   ·rintro ⟨x, hx, e⟩
    rcases List.mem_cons.1 hx with rfl | hx
    ·rw [← e]; exact (qho r x.1).1 h
    ·exact ⟨x, hx, e⟩
  ·rw [List.mem_cons, ih]
   constructor
   ·rintro (rfl | ⟨x, hx, e⟩)
    ·exact ⟨v, List.mem_cons_self, rfl⟩
    ·exact ⟨x, List.mem_cons_of_mem _ hx, e⟩
   ·rintro ⟨x, hx, e⟩
    rcases List.mem_cons.1 hx with rfl | hx
    ·exact .inl e.symm
    ·exact .inr ⟨x, hx, e⟩
theorem qhH (l : List VtV) : (gk l).Nodup := List.Nodup.sublist List.filter_sublist (qfn l)
theorem qdF : ∀ (l : List VtV) (g : Int), (∀ v ∈ l, v.1 ≠ g) → gsum l g = 0
 | [], _, _ => rfl
 | v :: r, g, h => by
  unfold gsum
  rw [if_neg (h v List.mem_cons_self), qdF r g (fun x hx => h x (List.mem_cons_of_mem _ hx))]; rfl
theorem qlg (l : List VtV) (g : Int) : g ∈ gk l ↔ 0 < gsum l g := by
 unfold gk
 rw [List.mem_filter, qho]
 simp only [decide_eq_true_eq]
 constructor
 ·exact fun h => h.2
 ·intro h
  refine ⟨?_, h⟩
  apply Classical.byContradiction
  intro hn
  have := qdF l g (fun v hv e => hn ⟨v, hv, e⟩)
  omega
theorem qdr {α : Type} [DecidableEq α] (p : α → Bool) : ∀ {l1 l2 : List α}, l1.Nodup → (∀ x ∈ l1, x ∈ l2) → l1.countP p ≤ l2.countP p
 | [], _, _, _ => by simp
 | x :: r, l2, h1, hs => by
  obtain ⟨hx, hr⟩ := List.nodup_cons.1 h1
  have ih := qdr p (l2 := l2.erase x) hr (fun y hy => (List.mem_erase_of_ne (fun e => hx (by rw [← e]; exact hy))).2 (hs y (List.mem_cons_of_mem _ hy)))
  have hp := (List.perm_cons_erase (hs x List.mem_cons_self)).countP_eq p
  rw [hp, List.countP_cons, List.countP_cons]
  omega
theorem qff {α : Type} [DecidableEq α] (p : α → Bool) {l1 l2 : List α} (h1 : l1.Nodup) (h2 : l2.Nodup) (h : ∀ x, x ∈ l1 ↔ x ∈ l2) : l1.countP p = l2.countP p :=
 Nat.le_antisymm (qdr p h1 fun x hx => (h x).1 hx) (qdr p h2 fun x hx => (h x).2 hx)
theorem qiL {α : Type} [DecidableEq α] {l1 l2 : List α} (h1 : l1.Nodup) (h2 : l2.Nodup) (h : ∀ x, x ∈ l1 ↔ x ∈ l2) : l1.length = l2.length := by
 have := qff (fun _ => true) h1 h2 h
 simpa using this
/-- any list of the groups, each once, serves -/
theorem qgv (l : List VtV) (have_ K : List Int) (hK : K.Nodup) (hm : ∀ g, g ∈ K ↔ 0 < gsum l g) : qbd l have_ = (fitB l && decide (K.length < 2 * K.countP (wonB l have_))) := by
 have e : ∀ g, g ∈ K ↔ g ∈ gk l := fun g => by rw [hm, qlg]
 unfold qbd
 rw [qff _ hK (qhH l) e, qiL hK (qhH l) e]
theorem qmM (l : List VtV) (g : Int) : ∀ i, msum [] i l g = 0 := by
 induction l with
 | nil => intro i; rfl
 | cons v r ih => intro i; unfold msum; rw [if_neg (by simp), ih]; rfl
theorem qgK {a b : List Int} (h : ∀ x ∈ a, x ∈ b) (g : Int) : ∀ (l : List VtV) (i : Nat), (∀ v ∈ l, 0 ≤ v.2) → msum a i l g ≤ msum b i l g
 | [], _, _ => Int.le_refl _
 | v :: r, i, hw => by
  have ih := qgK h g r (i + 1) (fun x hx => hw x (List.mem_cons_of_mem _ hx))
  have hv := hw v List.mem_cons_self
  unfold msum
  by_cases hc : v.1 = g ∧ (i : Int) ∈ a
  ·rw [if_pos hc, if_pos ⟨hc.1, h _ hc.2⟩]; omega
  ·rw [if_neg hc]
   split <;> omega
theorem qhb {l : List VtV} (h : fitB l = true) : ∀ v ∈ l, 0 ≤ v.2 ∧ v.2 ≤ 4294967296 := by
 unfold fitB at h
 simp only [Bool.and_eq_true, List.all_eq_true, decide_eq_true_eq] at h
 exact h.1.1
theorem qfb (l : List VtV) {a b : List Int} (h : ∀ x ∈ a, x ∈ b) (hq : qbd l a = true) : qbd l b = true := by
 unfold qbd at hq ⊢
 rw [Bool.and_eq_true, decide_eq_true_eq] at hq ⊢
 refine ⟨hq.1, Nat.lt_of_lt_of_le hq.2 (Nat.mul_le_mul_left _ (List.countP_mono_left fun g _ hg => ?_))⟩
 unfold wonB at hg ⊢
 rw [decide_eq_true_eq] at hg ⊢
 have := qgK h g l 0 (fun v hv => (qhb hq.1 v hv).1)
 omega
theorem qkb (l : List VtV) : qbd l [] = false := by
 unfold qbd
 rw [Bool.and_eq_false_iff]
 right
 rw [decide_eq_false_iff_not]
 have : (gk l).countP (wonB l []) = 0 := by
  rw [List.countP_eq_zero]
  intro g hg
  have := (qlg l g).1 hg
  unfold wonB
  rw [qmM, decide_eq_true_eq]
  omega
 omega
open Go.RowKit Go.MapKept Go.Maps
def encVt (v : VtV) : List Value := [.int .i64 v.1, .int .i64 v.2]
theorem lawN : Keyed Tryz.prog 3 := int_keyed Tryz.underlying3
theorem keyN {i : Int} (h : wfI i) : keyOf Tryz.prog 3 (.int .i64 i) = some (.int .i64 i) := keyOf_int_mk Tryz.underlying3 (qnG h)
/-- block b of w is a map from int64 of these keys and values -/
def MapN (w : World) (b : Nat) (l : List (Int × Value)) : Prop := MapV w Tryz.prog 3 b (l.map fun x => (.int .i64 x.1, x.2))
section
variable {w w' : World} {t e : TypeId} {b : Nat} {l : List (Int × Value)}
theorem MapN.made (w : World) : MapN (w.alloc (.map #[] 0)) w.heap.size [] := MapV.made _ _ _
theorem MapN.lt (h : MapN w b l) : b < w.heap.size := MapV.lt h
theorem MapN.of_heap (h : MapN w b l) (hh : w'.heap[b]? = w.heap[b]?) : MapN w' b l := MapV.of_heap h hh
theorem MapN.apart (h : MapN w b l) : (l.map (·.1)).Nodup := by
 have := MapV.apart h
 rw [List.pairwise_map] at this
 show (l.map (·.1)).Pairwise (· ≠ ·)
 rw [List.pairwise_map]
 exact this.imp fun {a b} hne e => hne (by rw [e])
theorem MapN.lookup (h : MapN w b l) (ht : Tryz.prog.underlying t = some (.map 3 e)) (c : Bool) {z : Value} (hz : ∀ w : World, (zeroValue e).run Tryz.prog w = .ok z w) {i : Int} (hi : wfI i) :
  (∃ v, (i, v) ∈ l ∧ ∀ w' : World, w'.heap[b]? = w.heap[b]? → (Instr.lookup t (.map (some b)) (.int .i64 i) c).run Tryz.prog w' = .ok (if c then .tuple #[v, .bool true] else v) w') ∨
  ((∀ p ∈ l, p.1 ≠ i) ∧ ∀ w' : World, w'.heap[b]? = w.heap[b]? → (Instr.lookup t (.map (some b)) (.int .i64 i) c).run Tryz.prog w' = .ok (if c then .tuple #[z, .bool false] else z) w') := by
 rcases MapV.lookup h lawN ht c hz (keyN hi) with ⟨v, hm, hr⟩ | ⟨hn, hr⟩
 ·obtain ⟨x, hx, ex⟩ := List.mem_map.1 hm
  have e1 : x.1 = i := by have := congrArg Prod.fst ex; simpa using this
  have e2 : x.2 = v := congrArg Prod.snd ex
  exact .inl ⟨v, by rw [← e1, ← e2]; exact hx, hr⟩
 ·exact .inr ⟨fun p hp e => hn _ (List.mem_map.2 ⟨p, hp, rfl⟩) (by rw [e]), hr⟩
theorem MapN.update (h : MapN w b l) (ht : Tryz.prog.underlying t = some (.map 3 e)) {i : Int} (hi : wfI i) (val : Value) :
  ∃ w' l', (Instr.mapUpdate t (.map (some b)) (.int .i64 i) val).run Tryz.prog w = .ok () w' ∧ MapN w' b l' ∧ w.grownBy w' (some b) ∧ w'.heap.size = w.heap.size ∧
   (((∀ p ∈ l, p.1 ≠ i) ∧ l' = l ++ [(i, val)]) ∨ ∃ j old, l[j]? = some (i, old) ∧ l' = l.set j (i, val)) := by
 obtain ⟨w', l', h1, h2, h3, h4, h5⟩ := MapV.update (val := val) h lawN ht (keyN hi)
 rcases h5 with ⟨hn, rfl⟩ | ⟨j, old, hj, rfl⟩
 ·exact ⟨w', l ++ [(i, val)], h1, by show MapV _ _ _ _ _; rw [List.map_append]; exact h2, h3, h4, .inl ⟨fun p hp e => hn _ (List.mem_map.2 ⟨p, hp, rfl⟩) (by rw [e]), rfl⟩⟩
 ·rw [List.getElem?_map] at hj
  cases hl : l[j]? with
  | none => rw [hl] at hj; cases hj
  | some x =>
   rw [hl] at hj
   have hj : ((.int .i64 x.1, x.2) : Value × Value) = (.int .i64 i, old) := by simpa using hj
   have e1 : x.1 = i := by have := congrArg Prod.fst hj; simpa using this
   have e2 : x.2 = old := congrArg Prod.snd hj
   refine ⟨w', l.set j (i, val), h1, by show MapV _ _ _ _ _; rw [List.map_set]; exact h2, h3, h4, .inr ⟨j, old, by rw [hl, ← e1, ← e2], rfl⟩⟩
end
theorem MapN.fr {own : List Nat} {w w' : World} {b : Nat} {l : List (Int × Value)} (h : MapN w b l) (hf : Fr own w w') (hn : b ∉ own) : MapN w' b l := h.of_heap (hf.block b h.lt hn)
theorem MapN.range {w : World} {b : Nat} {l : List (Int × Value)} (h : MapN w b l) {t e : TypeId} (ht : Tryz.prog.underlying t = some (.map 3 e)) :
  ∃ w', (Instr.range t (.map (some b))).run Tryz.prog w = .ok (.pointer (some ⟨w.heap.size, 0, none⟩)) w' ∧ RgI w' b w.heap.size l (fun _ => true) ∧ Below w.heap.size w w' ∧ w'.heap.size = w.heap.size + 1 := by
 obtain ⟨es, clock, hb, hs, hl, _⟩ := h
 have hlt := (Array.getElem?_eq_some_iff.1 hb).1
 refine ⟨_, run_range_map w t 3 e b es clock ht hb, ⟨by omega, es, clock, clock, #[], clock, (Below.heap_alloc _ _ b hlt).trans hb, hs, hl, heap_alloc_new _ _, ((stamped_iff es clock).1 hs).1, Nat.le_refl _, Nat.le_refl _, fun x _ i _ => by simp⟩, (Below.refl _ w).alloc (Nat.le_refl _) _, by simp⟩
theorem MapN.len {w : World} {t e : TypeId} {b : Nat} {l : List (Int × Value)} (h : MapN w b l) (ht : Tryz.prog.underlying t = some (.map 3 e)) (ty : TypeId) : (Builtin.len_ #[t] ty #[.map (some b)]).run Tryz.prog w = .ok (.int .i64 l.length) w := by
 obtain ⟨es, clock, hb, _, hl, _⟩ := h
 have e1 : es.size = l.length := by
  have := congrArg List.length hl
  simpa using this
 simp [Builtin.len_, run_underlying ht, MapKept.run_getObj_map hb, Result.andThen, goInt, e1]
/-- a map from groups to sums: K are its keys, f its values (0 elsewhere) -/
def SumM (w : World) (b : Nat) (K : List Int) (f : Int → Int) : Prop := MapN w b (K.map fun g => (g, .int .i64 (f g))) ∧ ∀ g, g ∉ K → f g = 0
theorem SumM.lt {w : World} {b : Nat} {K : List Int} {f : Int → Int} (h : SumM w b K f) : b < w.heap.size := h.1.lt
theorem SumM.nodup {w : World} {b : Nat} {K : List Int} {f : Int → Int} (h : SumM w b K f) : K.Nodup := by
 have := h.1.apart
 rwa [List.map_map, show ((fun x : Int × Value => x.1) ∘ fun g => (g, Value.int .i64 (f g))) = id from rfl, List.map_id] at this
theorem SumM.fr {own : List Nat} {w w' : World} {b : Nat} {K : List Int} {f : Int → Int} (h : SumM w b K f) (hf : Fr own w w') (hn : b ∉ own) : SumM w' b K f := ⟨h.1.fr hf hn, h.2⟩
theorem SumM.made (w : World) : SumM (w.alloc (.map #[] 0)) w.heap.size [] (fun _ => 0) := ⟨MapN.made w, fun _ _ => rfl⟩
theorem qnV (w : World) : (zeroValue 2).run Tryz.prog w = .ok (.int .i64 0) w := by kernel_rfl
theorem SumM.look {w : World} {b : Nat} {K : List Int} {f : Int → Int} (h : SumM w b K f) {g : Int} (hg : wfI g) : ∀ w' : World, w'.heap[b]? = w.heap[b]? → (Instr.lookup 125 (.map (some b)) (.int .i64 g) false).run Tryz.prog w' = .ok (.int .i64 (f g)) w' := by
 rcases h.1.lookup Tryz.underlying125 false qnV hg with ⟨v, hm, hr⟩ | ⟨hn, hr⟩
 ·obtain ⟨x, _, e⟩ := List.mem_map.1 hm
  injection e with e1 e2
  subst e1 e2
  exact hr
 ·have : f g = 0 := h.2 g fun hk => hn (g, .int .i64 (f g)) (List.mem_map.2 ⟨g, hk, rfl⟩) rfl
  intro w' hw'
  rw [this]
  simpa using hr w' hw'
theorem SumM.put {w : World} {b : Nat} {K : List Int} {f : Int → Int} (h : SumM w b K f) {g : Int} (hg : wfI g) (v : Int) :
  ∃ w' K', (Instr.mapUpdate 125 (.map (some b)) (.int .i64 g) (.int .i64 v)).run Tryz.prog w = .ok () w' ∧ SumM w' b K' (fun x => if x = g then v else f x) ∧ (∀ x, x ∈ K' ↔ x ∈ K ∨ x = g) ∧ w.grownBy w' (some b) ∧ w'.heap.size = w.heap.size := by
 obtain ⟨w', l', h1, h2, h3, h4, h5⟩ := h.1.update Tryz.underlying125 hg (.int .i64 v)
 rcases h5 with ⟨hn, rfl⟩ | ⟨j, old, hj, rfl⟩
 ·have hgk : g ∉ K := fun hk => hn (g, .int .i64 (f g)) (List.mem_map.2 ⟨g, hk, rfl⟩) rfl
  refine ⟨w', K ++ [g], h1, ⟨?_, fun x hx => ?_⟩, fun x => by simp, h3, h4⟩
  ·have e : (K.map fun x => (x, Value.int .i64 (f x))) ++ [(g, .int .i64 v)] = (K ++ [g]).map fun x => (x, Value.int .i64 (if x = g then v else f x)) := by
    have e1 : (K.map fun x => (x, Value.int .i64 (f x))) = K.map fun x => (x, Value.int .i64 (if x = g then v else f x)) := List.map_congr_left fun x hx => by rw [if_neg (show ¬ x = g from fun e => hgk (e ▸ hx))]
    rw [List.map_append, ← e1, List.map_cons, List.map_nil, if_pos rfl]
   rw [← e]; exact h2
  ·rw [List.mem_append, List.mem_singleton] at hx
   show (if x = g then v else f x) = 0
   rw [if_neg (fun e => hx (.inr e))]
   exact h.2 x fun hk => hx (.inl hk)
 ·have hnd := h.nodup
  rw [List.getElem?_map] at hj
  cases hk : K[j]? with
  | none => rw [hk] at hj; cases hj
  | some x =>
   rw [hk] at hj
   have hj : (x, Value.int .i64 (f x)) = (g, old) := by simpa using hj
   have ex : x = g := congrArg Prod.fst hj
   subst ex
   have hjl := (List.getElem?_eq_some_iff.1 hk).1
   have hjx : K[j] = x := (List.getElem?_eq_some_iff.1 hk).2
   have hxm : x ∈ K := List.mem_of_getElem? hk
   refine ⟨w', K, h1, ⟨?_, fun y hy => ?_⟩, fun y => ⟨fun h => .inl h, fun h => h.elim id (fun e => e ▸ hxm)⟩, h3, h4⟩
   ·have e : (K.map fun y => (y, Value.int .i64 (f y))).set j (x, .int .i64 v) = K.map fun y => (y, Value.int .i64 (if y = x then v else f y)) := by
     apply List.ext_getElem (by simp)
     intro i h1 h2
     have hi : i < K.length := by simpa using h1
     rw [List.getElem_set]
     by_cases hij : j = i
     ·subst hij; simp [hjx]
     ·rw [if_neg hij, List.getElem_map, List.getElem_map]
      rw [if_neg]
      intro e
      exact hij ((List.getElem_inj hnd).1 (hjx.trans e.symm))
    rw [← e]; exact h2
   ·show (if y = x then v else f y) = 0
    rw [if_neg (fun e => hy (by rw [e]; exact hxm))]
    exact h.2 y hy
theorem SumM.len {w : World} {b : Nat} {K : List Int} {f : Int → Int} (h : SumM w b K f) : (Builtin.len_ #[125] 3 #[.map (some b)]).run Tryz.prog w = .ok (.int .i64 K.length) w := by
 have := h.1.len Tryz.underlying125 3
 rwa [List.length_map] at this

/-- The rune that the reference tells at a place: -1 of a broken one. -/
def qby (s : ByteArray) (p : Nat) : Int := if (Utf8.decode s p).1 = 65533 ∧ (Utf8.decode s p).2 = 1 then -1 else ((Utf8.decode s p).1 : Int)
/-- How many bytes the character at a place has. -/
def qaJ (s : ByteArray) (p : Nat) : Nat := (Utf8.decode s p).2
/-- The kind of the character at a place. -/
def qbh (s : ByteArray) (p : Nat) : Int := if (Utf8.decode s p).1 = 65533 ∧ (Utf8.decode s p).2 = 1 then 8 else qdC ((Utf8.decode s p).1 : Int)

theorem qdi (s : ByteArray) (p : Nat) : 1 ≤ qaJ s p := Lib.width_pos s p
theorem qjx (n b0 b1 b2 b3 : Nat) : (Lib.decodeN n b0 b1 b2 b3).2 ≤ 4 := by
 unfold Lib.decodeN; repeat' split
 all_goals simp
theorem qkl (s : ByteArray) (p : Nat) : qaJ s p ≤ 4 := by unfold qaJ; rw [Lib.decode_at]; exact qjx _ _ _ _ _
theorem qhs (s : ByteArray) (p : Nat) (h : p < s.size) : p + qaJ s p ≤ s.size := by
 unfold qaJ; rw [Lib.decode_at]; have := Lib.decodeN_width_le (s.size - p) (s.get! p).toNat (s.get! (p + 1)).toNat (s.get! (p + 2)).toNat (s.get! (p + 3)).toNat (by omega); omega
theorem qgu (s : ByteArray) (p : Nat) : (Utf8.decode s p).1 ≤ 1114111 := Lib.rune_le s p
/-- What 'Of' makes of the reference's rune. -/
def ofI (r : Int) : Int := if r < 0 then 8 else qdC r
theorem qkK (s : ByteArray) (p : Nat) : ofI (qby s p) = qbh s p := by
 unfold ofI qby qbh; split
 ·rfl
 ·rw [if_neg (by omega)]

theorem qbj (s : ByteArray) (i : Nat) (h : i < s.size) : s.get! i = s[i] := by
 show s.data[i]! = s.data[i]
 rw [getElem!_pos s.data i h]
theorem qeh (s : ByteArray) (i : Nat) : (s.get! i).toNat < 256 := UInt8.toNat_lt _

/-- U+FFFD stands rightly at a place just where its three bytes stand there. -/
theorem qmp (n b0 b1 b2 b3 : Nat) (h0 : b0 < 256) (h : (Lib.decodeN n b0 b1 b2 b3).1 = 65533) :
  ((Lib.decodeN n b0 b1 b2 b3).2 = 1) ↔ ¬ (3 ≤ n ∧ b0 = 239 ∧ b1 = 191 ∧ b2 = 189) := by
 revert h; unfold Lib.decodeN; repeat' split
 all_goals (simp; try omega)

theorem qfP (l : List UInt8) (a b c : UInt8) : Lib.hasPrefix l [a, b, c] = true ↔ (3 ≤ l.length ∧ l.getD 0 0 = a ∧ l.getD 1 0 = b ∧ l.getD 2 0 = c) := by
 match l with
 | [] => simp [Lib.hasPrefix]
 | [x] => simp [Lib.hasPrefix]
 | [x, y] => simp [Lib.hasPrefix]
 | x :: y :: z :: t =>
  simp [Lib.hasPrefix]
  constructor
  ·rintro ⟨rfl, rfl, rfl⟩; exact ⟨rfl, rfl, rfl⟩
  ·rintro ⟨rfl, rfl, rfl⟩; exact ⟨rfl, rfl, rfl⟩

theorem qeC (s : ByteArray) (p k : Nat) : (s.data.toList.drop p).getD k 0 = s.get! (p + k) := by
 rw [List.getD_eq_getElem?_getD, List.getElem?_drop]
 show _ = s.data[p + k]!
 by_cases h : p + k < s.data.size
 ·rw [getElem!_pos s.data _ h]; simp [Array.getElem?_eq_getElem h]
 ·rw [getElem!_neg s.data _ h]; simp [Array.getElem?_eq_none (Nat.not_lt.1 h)]; rfl

/-- What 'of' asks of the text behind the place: whether U+FFFD's bytes stand there. -/
theorem qiM (s : ByteArray) (p : Nat) (h : (Utf8.decode s p).1 = 65533) :
  Lib.hasPrefix (s.extract p s.size).data.toList [239, 191, 189] = !decide ((Utf8.decode s p).2 = 1) := by
 rw [Lib.extract_to_end]
 have e := qfP (s.data.toList.drop p) 239 191 189
 rw [qeC, qeC, qeC] at e
 have k := qmp (s.size - p) (s.get! p).toNat (s.get! (p + 1)).toNat (s.get! (p + 2)).toNat (s.get! (p + 3)).toNat (qeh _ _) (by rw [← Lib.decode_at]; exact h)
 rw [← Lib.decode_at] at k
 have hl : (s.data.toList.drop p).length = s.size - p := by simp
 rw [hl] at e
 have u : ∀ (x y : UInt8), x = y ↔ x.toNat = y.toNat := fun x y => UInt8.toNat_inj.symm
 simp only [u, Nat.add_zero] at e
 have n1 : (239 : UInt8).toNat = 239 := rfl
 have n2 : (191 : UInt8).toNat = 191 := rfl
 have n3 : (189 : UInt8).toNat = 189 := rfl
 rw [n1, n2, n3] at e
 rw [Bool.eq_iff_iff, e]
 simp only [Bool.not_eq_true', decide_eq_false_iff_not]
 rw [k]; simp

/-! ### The reference's way to read a character -/
def qbA (n j b : Nat) : Prop := j < n ∧ 128 ≤ b ∧ b < 192
theorem qoh (n b0 b1 b2 b3 : Nat) (h : 192 ≤ b0 ∧ b0 < 224) (c1 : qbA n 1 b1) :
  Lib.decodeN n b0 b1 b2 b3 = if 64 * (b0 - 192) + b1 - 128 < 128 then (65533, 1) else (64 * (b0 - 192) + b1 - 128, 2) := by
 unfold qbA at c1; unfold Lib.decodeN; repeat' split
 all_goals first | (exfalso; omega) | (apply Prod.ext <;> simp only <;> omega)
theorem qnN (n b0 b1 b2 b3 : Nat) (h : 192 ≤ b0 ∧ b0 < 224) (hb : b1 < 256) (c1 : ¬ qbA n 1 b1) : Lib.decodeN n b0 b1 b2 b3 = (65533, 1) := by
 unfold qbA at c1; unfold Lib.decodeN; repeat' split
 all_goals first | rfl | (exfalso; omega)
theorem qod (n b0 b1 b2 b3 : Nat) (h : 224 ≤ b0 ∧ b0 < 240) (c1 : qbA n 1 b1) (c2 : qbA n 2 b2) :
  Lib.decodeN n b0 b1 b2 b3 = if 64 * (64 * (b0 - 224) + b1 - 128) + b2 - 128 < 2048 ∨ (55296 ≤ 64 * (64 * (b0 - 224) + b1 - 128) + b2 - 128 ∧ 64 * (64 * (b0 - 224) + b1 - 128) + b2 - 128 ≤ 57343) then (65533, 1) else (64 * (64 * (b0 - 224) + b1 - 128) + b2 - 128, 3) := by
 unfold qbA at c1 c2; unfold Lib.decodeN; repeat' split
 all_goals first | rfl | (exfalso; omega) | (apply Prod.ext <;> simp only <;> omega)
theorem qnI (n b0 b1 b2 b3 : Nat) (h : 224 ≤ b0 ∧ b0 < 240) (hb : b1 < 256) (hb2 : b2 < 256) (c1 : ¬ qbA n 1 b1 ∨ ¬ qbA n 2 b2) : Lib.decodeN n b0 b1 b2 b3 = (65533, 1) := by
 unfold qbA at c1; unfold Lib.decodeN; repeat' split
 all_goals first | rfl | (exfalso; omega)
theorem qnm (n b0 b1 b2 b3 : Nat) (h : 240 ≤ b0 ∧ b0 < 248) (c1 : qbA n 1 b1) (c2 : qbA n 2 b2) (c3 : qbA n 3 b3) :
  Lib.decodeN n b0 b1 b2 b3 = if 64 * (64 * (64 * (b0 - 240) + b1 - 128) + b2 - 128) + b3 - 128 < 65536 ∨ 1114111 < 64 * (64 * (64 * (b0 - 240) + b1 - 128) + b2 - 128) + b3 - 128 then (65533, 1) else (64 * (64 * (64 * (b0 - 240) + b1 - 128) + b2 - 128) + b3 - 128, 4) := by
 unfold qbA at c1 c2 c3; unfold Lib.decodeN; repeat' split
 all_goals first | rfl | (exfalso; omega) | (apply Prod.ext <;> simp only <;> omega)
theorem qoe (n b0 b1 b2 b3 : Nat) (h : 240 ≤ b0 ∧ b0 < 248) (hb : b1 < 256) (hb2 : b2 < 256) (hb3 : b3 < 256) (c1 : ¬ qbA n 1 b1 ∨ ¬ qbA n 2 b2 ∨ ¬ qbA n 3 b3) : Lib.decodeN n b0 b1 b2 b3 = (65533, 1) := by
 unfold qbA at c1; unfold Lib.decodeN; repeat' split
 all_goals first | rfl | (exfalso; omega)
theorem qko (n b0 b1 b2 b3 : Nat) (h : 128 ≤ b0 ∧ b0 < 192 ∨ 248 ≤ b0 ∧ b0 < 256) : Lib.decodeN n b0 b1 b2 b3 = (65533, 1) := by
 unfold Lib.decodeN; repeat' split
 all_goals first | rfl | (exfalso; omega)

/-- continuation byte at a place -/
def qdt (s : ByteArray) (j : Nat) : Prop := j < s.size ∧ 128 ≤ (s.get! j).toNat ∧ (s.get! j).toNat < 192
theorem qcd (s : ByteArray) (p k : Nat) : qdt s (p + k) ↔ qbA (s.size - p) k (s.get! (p + k)).toNat := by
 unfold qdt qbA; constructor <;> intro h <;> exact ⟨by omega, by omega, by omega⟩
/-- what is put together of the continuation bytes before the k-th -/
def accI (s : ByteArray) (p : Nat) (r0 : Int) : Nat → Int
 | 0 => r0
 | k + 1 => 64 * accI s p r0 k + (s.get! (p + (k + 1))).toNat - 128
theorem qbV {s : ByteArray} {p : Nat} (h : Utf8.decode s p = (65533, 1)) : qby s p = -1 ∧ (qaJ s p : Int) = 1 := by
 unfold qby qaJ; rw [h]; exact ⟨rfl, rfl⟩
theorem qeG {s : ByteArray} {p : Nat} {c n : Nat} (h : Utf8.decode s p = (c, n)) (hn : n ≠ 1) : qby s p = c ∧ (qaJ s p : Int) = n := by
 unfold qby qaJ; rw [h]; exact ⟨by rw [if_neg (fun hh => hn hh.2)], rfl⟩


def ContsTo (s : ByteArray) (p k : Nat) : Prop := ∀ j, 1 ≤ j → j ≤ k → qdt s (p + j)
theorem ContsTo.zero (s : ByteArray) (p : Nat) : ContsTo s p 0 := fun j h1 h2 => by omega
theorem ContsTo.succ {s : ByteArray} {p k : Nat} (h : ContsTo s p k) (hc : qdt s (p + (k + 1))) : ContsTo s p (k + 1) := fun j h1 h2 => by
 by_cases e : j = k + 1
 ·rw [e]; exact hc
 ·exact h j h1 (by omega)
theorem qjb (s : ByteArray) (p : Nat) (r0 : Int) (h0 : 0 ≤ r0) (h1 : r0 < 32) : ∀ k, k ≤ 3 → ContsTo s p k → 0 ≤ accI s p r0 k ∧ accI s p r0 k < (if k = 0 then 32 else if k = 1 then 2048 else if k = 2 then 131072 else 8388608)
 | 0, _, _ => ⟨h0, by simpa [accI] using h1⟩
 | k + 1, hk, h => by
  have ih := qjb s p r0 h0 h1 k (by omega) (fun j a b => h j a (by omega))
  obtain ⟨_, c1, c2⟩ := h (k + 1) (by omega) (by omega)
  unfold accI
  match k, hk with
  | 0, _ => simp at ih c1 c2 ⊢; omega
  | 1, _ => simp at ih c1 c2 ⊢; omega
  | 2, _ => simp at ih c1 c2 ⊢; omega
theorem accI_bd' (s : ByteArray) (p : Nat) (r0 : Int) (h0 : 0 ≤ r0) (h1 : r0 < 32) (k : Nat) (hk : k ≤ 3) (h : ContsTo s p k) : 0 ≤ accI s p r0 k ∧ accI s p r0 k < 8388608 := by
 have bd := qjb s p r0 h0 h1 k hk h
 refine ⟨bd.1, ?_⟩
 have h2 := bd.2
 revert h2
 repeat' split
 all_goals omega

/-- Is what was put together no character's number? -/
def badX (least x : Int) : Prop := (x < least ∨ 1114111 < x) ∨ (55296 ≤ x ∧ x ≤ 57343)

theorem qoZ (s : ByteArray) (p : Nat) (hp : p < s.size) (hb : 192 ≤ (s[p].toNat : Int)) (hb2 : (s[p].toNat : Int) < 224) (hc : ContsTo s p 1) :
  (badX 128 (accI s p ((s[p].toNat : Int) - 192) 1) → qby s p = -1 ∧ (qaJ s p : Int) = 1) ∧ (¬ badX 128 (accI s p ((s[p].toNat : Int) - 192) 1) → qby s p = accI s p ((s[p].toNat : Int) - 192) 1 ∧ (qaJ s p : Int) = 2) := by
 have g := qbj s p hp
 have d := qoh (s.size - p) (s.get! p).toNat (s.get! (p + 1)).toNat (s.get! (p + 2)).toNat (s.get! (p + 3)).toNat (by rw [g]; omega) ((qcd s p 1).1 (hc 1 (by omega) (by omega)))
 rw [← Lib.decode_at, g] at d
 obtain ⟨_, x1, y1⟩ := hc 1 (by omega) (by omega)
 have e : accI s p ((s[p].toNat : Int) - 192) 1 = ((64 * (s[p].toNat - 192) + (s.get! (p + 1)).toNat - 128 : Nat) : Int) := by simp [accI]; omega
 rw [e]
 unfold badX
 constructor
 ·intro h
  rw [if_pos (by omega)] at d
  exact qbV d
 ·intro h
  rw [if_neg (by omega)] at d
  exact qeG (n := 2) d (by decide)

theorem no_2 (s : ByteArray) (p : Nat) (hp : p < s.size) (hb : 192 ≤ (s[p].toNat : Int)) (hb2 : (s[p].toNat : Int) < 224) (k : Nat) (hk : k + 1 < 2) (hc : ¬ qdt s (p + (k + 1))) :
  qby s p = -1 ∧ (qaJ s p : Int) = 1 := by
 apply qbV
 rw [qcd] at hc
 rw [Lib.decode_at]
 refine qnN _ _ _ _ _ (by rw [qbj s p hp]; omega) (qeh _ _) ?_
 match k, hk with
 | 0, _ => exact hc


theorem qpa (s : ByteArray) (p : Nat) (hp : p < s.size) (hb : 224 ≤ (s[p].toNat : Int)) (hb2 : (s[p].toNat : Int) < 240) (hc : ContsTo s p 2) :
  (badX 2048 (accI s p ((s[p].toNat : Int) - 224) 2) → qby s p = -1 ∧ (qaJ s p : Int) = 1) ∧ (¬ badX 2048 (accI s p ((s[p].toNat : Int) - 224) 2) → qby s p = accI s p ((s[p].toNat : Int) - 224) 2 ∧ (qaJ s p : Int) = 3) := by
 have g := qbj s p hp
 have d := qod (s.size - p) (s.get! p).toNat (s.get! (p + 1)).toNat (s.get! (p + 2)).toNat (s.get! (p + 3)).toNat (by rw [g]; omega) ((qcd s p 1).1 (hc 1 (by omega) (by omega))) ((qcd s p 2).1 (hc 2 (by omega) (by omega)))
 rw [← Lib.decode_at, g] at d
 obtain ⟨_, x1, y1⟩ := hc 1 (by omega) (by omega)
 obtain ⟨_, x2, y2⟩ := hc 2 (by omega) (by omega)
 have e : accI s p ((s[p].toNat : Int) - 224) 2 = ((64 * (64 * (s[p].toNat - 224) + (s.get! (p + 1)).toNat - 128) + (s.get! (p + 2)).toNat - 128 : Nat) : Int) := by simp [accI]; omega
 rw [e]
 unfold badX
 constructor
 ·intro h
  rw [if_pos (by omega)] at d
  exact qbV d
 ·intro h
  rw [if_neg (by omega)] at d
  exact qeG (n := 3) d (by decide)

theorem no_3 (s : ByteArray) (p : Nat) (hp : p < s.size) (hb : 224 ≤ (s[p].toNat : Int)) (hb2 : (s[p].toNat : Int) < 240) (k : Nat) (hk : k + 1 < 3) (hc : ¬ qdt s (p + (k + 1))) :
  qby s p = -1 ∧ (qaJ s p : Int) = 1 := by
 apply qbV
 rw [qcd] at hc
 rw [Lib.decode_at]
 refine qnI _ _ _ _ _ (by rw [qbj s p hp]; omega) (qeh _ _) (qeh _ _) ?_
 match k, hk with
 | 0, _ => exact .inl hc
 | 1, _ => exact .inr hc


theorem qpl (s : ByteArray) (p : Nat) (hp : p < s.size) (hb : 240 ≤ (s[p].toNat : Int)) (hb2 : (s[p].toNat : Int) < 248) (hc : ContsTo s p 3) :
  (badX 65536 (accI s p ((s[p].toNat : Int) - 240) 3) → qby s p = -1 ∧ (qaJ s p : Int) = 1) ∧ (¬ badX 65536 (accI s p ((s[p].toNat : Int) - 240) 3) → qby s p = accI s p ((s[p].toNat : Int) - 240) 3 ∧ (qaJ s p : Int) = 4) := by
 have g := qbj s p hp
 have d := qnm (s.size - p) (s.get! p).toNat (s.get! (p + 1)).toNat (s.get! (p + 2)).toNat (s.get! (p + 3)).toNat (by rw [g]; omega) ((qcd s p 1).1 (hc 1 (by omega) (by omega))) ((qcd s p 2).1 (hc 2 (by omega) (by omega))) ((qcd s p 3).1 (hc 3 (by omega) (by omega)))
 rw [← Lib.decode_at, g] at d
 obtain ⟨_, x1, y1⟩ := hc 1 (by omega) (by omega)
 obtain ⟨_, x2, y2⟩ := hc 2 (by omega) (by omega)
 obtain ⟨_, x3, y3⟩ := hc 3 (by omega) (by omega)
 have e : accI s p ((s[p].toNat : Int) - 240) 3 = ((64 * (64 * (64 * (s[p].toNat - 240) + (s.get! (p + 1)).toNat - 128) + (s.get! (p + 2)).toNat - 128) + (s.get! (p + 3)).toNat - 128 : Nat) : Int) := by simp [accI]; omega
 rw [e]
 unfold badX
 constructor
 ·intro h
  rw [if_pos (by omega)] at d
  exact qbV d
 ·intro h
  rw [if_neg (by omega)] at d
  exact qeG (n := 4) d (by decide)

theorem no_4 (s : ByteArray) (p : Nat) (hp : p < s.size) (hb : 240 ≤ (s[p].toNat : Int)) (hb2 : (s[p].toNat : Int) < 248) (k : Nat) (hk : k + 1 < 4) (hc : ¬ qdt s (p + (k + 1))) :
  qby s p = -1 ∧ (qaJ s p : Int) = 1 := by
 apply qbV
 rw [qcd] at hc
 rw [Lib.decode_at]
 refine qoe _ _ _ _ _ (by rw [qbj s p hp]; omega) (qeh _ _) (qeh _ _) (qeh _ _) ?_
 match k, hk with
 | 0, _ => exact .inl hc
 | 1, _ => exact .inr (.inl hc)
 | 2, _ => exact .inr (.inr hc)

end Go.Proofs.YtbpmmmnphpkdjaaGreatDoor

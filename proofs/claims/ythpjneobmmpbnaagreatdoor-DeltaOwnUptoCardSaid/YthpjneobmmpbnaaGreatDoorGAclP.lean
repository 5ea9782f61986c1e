/- Plain facts: the reference's table of first bytes tells UTF-8 as the library's own check does; a text's characters are above the blank etc. -/
import Derived.Lib.DecodeN
import Derived.Lib.DecodeNEq
import Derived.Lib.TrimUEq
import Derived.Lib.ValidLaws
import Derived.Lib.AtoiAll
import Derived.Lib.ItoaNum
import Derived.Lib.ItoaMem
import Derived.Lib.Split
import Derived.Lib.SplitLaws
import Derived.Lib.IndexBytes
import Derived.Lib.CutLaws
namespace Go.Proofs.YthpjneobmmpbnaaGreatDoor

theorem get_dropU (s : ByteArray) (p k : Nat) : (s.data.toList.drop p).getD k 0 = s.get! (p + k) := by
  rw [List.getD_eq_getElem?_getD, List.getElem?_drop]
  show _ = s.data[p + k]!
  by_cases h : p + k < s.data.size
  · rw [getElem!_pos s.data _ h, List.getElem?_eq_getElem (by simpa using h)]; simp
  · rw [getElem!_neg s.data _ h, List.getElem?_eq_none (by simpa using h)]; rfl
/-- is the text right from a place on? -/
def validFrom (s : ByteArray) (p : Nat) : Bool := Lib.validD (s.data.toList.drop p)
/-- may a byte (or a character) stand in a text? -/
def okB (b : Nat) : Bool := decide (33 ≤ b) && decide (b ≠ 127) && decide (b ≠ 44)
/-- all from a place on -/
def okFrom (s : ByteArray) (p : Nat) : Bool := (s.data.toList.drop p).all (fun b => okB b.toNat)
theorem okFrom_end (s : ByteArray) (p : Nat) (h : ¬ p < s.size) : okFrom s p = true := by
  unfold okFrom; rw [List.drop_eq_nil_of_le (by simpa using h)]; rfl
theorem okFrom_step (s : ByteArray) (p : Nat) (h : p < s.size) : okFrom s p = (okB (s.get! p).toNat && okFrom s (p + 1)) := by
  have hc : s.data.toList.drop p = s.get! p :: s.data.toList.drop (p + 1) := by
    rw [List.drop_eq_getElem_cons (by simpa using h)]
    congr 1
    show _ = s.data[p]!
    rw [getElem!_pos s.data p h]; simp
  unfold okFrom; rw [hc]; rfl
theorem okB_high (b : Nat) (h : 128 ≤ b) : okB b = true := by simp [okB]; omega
theorem decodeN_low (n b0 b1 b2 b3 : Nat) (h : b0 < 128) : Lib.decodeN n b0 b1 b2 b3 = (b0, 1) := by simp [Lib.decodeN, h]
set_option maxHeartbeats 4000000 in
theorem decodeN_high (n b0 b1 b2 b3 : Nat) (h : ¬ b0 < 128) : 128 ≤ (Lib.decodeN n b0 b1 b2 b3).1 ∧ (1 < (Lib.decodeN n b0 b1 b2 b3).2 → 128 ≤ b1 ∧ 1 < n) ∧ (2 < (Lib.decodeN n b0 b1 b2 b3).2 → 128 ≤ b2 ∧ 2 < n) ∧ (3 < (Lib.decodeN n b0 b1 b2 b3).2 → 128 ≤ b3 ∧ 3 < n)
    ∧ (Lib.decodeN n b0 b1 b2 b3).2 ≤ 4 ∧ 1 ≤ (Lib.decodeN n b0 b1 b2 b3).2 := by
  unfold Lib.decodeN; rw [if_neg h]; repeat' split
  all_goals (refine ⟨?_, ?_, ?_, ?_, ?_, ?_⟩ <;> simp <;> omega)
/-- ONE CHARACTER OF THE PROGRAM's CHECK. -/
theorem okFrom_rune (s : ByteArray) (p : Nat) (h : p < s.size) : okFrom s p = (okB (Utf8.decode s p).1 && okFrom s (p + (Utf8.decode s p).2)) := by
  rw [Lib.decode_at]
  by_cases h0 : (s.get! p).toNat < 128
  · rw [decodeN_low _ _ _ _ _ h0]; exact okFrom_step s p h
  · have hh := decodeN_high (s.size - p) (s.get! p).toNat (s.get! (p + 1)).toNat (s.get! (p + 2)).toNat (s.get! (p + 3)).toNat h0
    revert hh
    generalize Lib.decodeN (s.size - p) (s.get! p).toNat (s.get! (p + 1)).toNat (s.get! (p + 2)).toNat (s.get! (p + 3)).toNat = d
    obtain ⟨r, w⟩ := d
    simp only []
    rintro ⟨h1, h2, h3, h4, h5, h6⟩
    rw [okB_high _ h1, okFrom_step s p h, okB_high _ (by omega), Bool.true_and, Bool.true_and]
    have : w = 1 ∨ w = 2 ∨ w = 3 ∨ w = 4 := by omega
    rcases this with rfl | rfl | rfl | rfl
    · rfl
    · rw [okFrom_step s (p + 1) (by omega), okB_high _ (h2 (by omega)).1, Bool.true_and]
    · rw [okFrom_step s (p + 1) (by omega), okB_high _ (h2 (by omega)).1, Bool.true_and, okFrom_step s (p + 1 + 1) (by omega), okB_high _ (h3 (by omega)).1, Bool.true_and]
    · rw [okFrom_step s (p + 1) (by omega), okB_high _ (h2 (by omega)).1, Bool.true_and, okFrom_step s (p + 1 + 1) (by omega), okB_high _ (h3 (by omega)).1, Bool.true_and, okFrom_step s (p + 1 + 1 + 1) (by omega), okB_high _ (h4 (by omega)).1, Bool.true_and]
/-- may a text be a scheme, an id? -/
def textOk (s : ByteArray) : Bool := decide (1 ≤ s.size) && decide (s.size ≤ 256) && validFrom s 0 && okFrom s 0
end Go.Proofs.YthpjneobmmpbnaaGreatDoor
namespace Go.Proofs.YthpjneobmmpbnaaGreatDoor
open Go.Lib

def dec3 (n : Nat) : List UInt8 :=
  if n < 10 then [UInt8.ofNat (48 + n)] else if n < 100 then [UInt8.ofNat (48 + n / 10), UInt8.ofNat (48 + n % 10)]
  else [UInt8.ofNat (48 + n / 10 / 10), UInt8.ofNat (48 + n / 10 % 10), UInt8.ofNat (48 + n % 10)]
theorem decDigits_dec3 (n : Nat) (h : n < 1000) : decDigits n = dec3 n := by
  unfold dec3
  by_cases h1 : n < 10
  · rw [if_pos h1, decDigits_one h1]
  · rw [if_neg h1]
    by_cases h2 : n < 100
    · rw [if_pos h2, decDigits_two h1 h2]
    · rw [if_neg h2, decDigits, dif_neg h1, decDigits_two (by omega) (by omega)]; rfl
theorem itoa_dec3 (n : Nat) (h : n < 1000) : itoa (n : Int) = dec3 n := by rw [itoa_nonneg, decDigits_dec3 n h]
/-- what the program's 'decimal' tells -/
def decP (l : List UInt8) (most : Int) : Int :=
  match atoiAll l with
  | .ok n => if n < 0 ∨ most < n ∨ itoa n ≠ l then -1 else n
  | _ => -1
theorem round_all : ∀ n : Fin 256, atoiAll (dec3 n.val) = .ok (n.val : Int) := by decide +kernel
theorem decP_of (l : List UInt8) (most : Int) (n : Nat) (hm : most ≤ 255) (hn : (n : Int) ≤ most) (hl : l = dec3 n) : decP l most = n := by
  subst hl
  have hr := round_all ⟨n, by omega⟩
  simp only at hr
  unfold decP; rw [hr]
  simp only []
  rw [if_neg]
  rw [itoa_dec3 n (by omega)]
  simp; omega
theorem decP_none (l : List UInt8) (most : Int) (hm : most ≤ 255) (h : ∀ n : Nat, (n : Int) ≤ most → l ≠ dec3 n) : decP l most = -1 := by
  unfold decP
  cases hc : atoiAll l with
  | ok v =>
    simp only []
    by_cases hv : v < 0 ∨ most < v ∨ itoa v ≠ l
    · rw [if_pos hv]
    · exfalso
      have h0 : 0 ≤ v := by omega
      obtain ⟨n, rfl⟩ := Int.eq_ofNat_of_zero_le h0
      have hi : itoa (n : Int) = l := by
        by_cases hh : itoa (n : Int) = l
        · exact hh
        · exact absurd (.inr (.inr hh)) hv
      exact h n (by omega) (by rw [← hi, itoa_dec3 n (by omega)])
  | range => rfl
  | _ => rfl
/-- a digit -/
def isD (b : UInt8) : Bool := decide (48 ≤ b.toNat) && decide (b.toNat ≤ 57)
/-- the digits' number; none: a byte is no digit -/
def digF : Int → List UInt8 → Option Int
  | acc, [] => some acc
  | acc, b :: r => if isD b then digF (10 * acc + ((b.toNat : Int) - 48)) r else none
/-- what the reference's 'decimal' tells -/
def decR (l : List UInt8) (most : Int) : Int :=
  if l.length < 1 ∨ 3 < l.length ∨ (1 < l.length ∧ l.getD 0 0 = 48) then -1
  else match digF 0 l with
    | none => -1
    | some n => if most < n then -1 else n
theorem isD_iff (b : UInt8) : isD b = true ↔ ∃ d : Nat, d < 10 ∧ b = UInt8.ofNat (48 + d) := by
  constructor
  · intro h
    simp [isD] at h
    refine ⟨b.toNat - 48, by omega, ?_⟩
    apply UInt8.toNat_inj.1
    rw [UInt8.toNat_ofNat']; omega
  · rintro ⟨d, hd, rfl⟩
    simp [isD, UInt8.toNat_ofNat']; omega
theorem toNat48 (d : Nat) (h : d < 10) : (UInt8.ofNat (48 + d)).toNat = 48 + d := by rw [UInt8.toNat_ofNat']; omega
theorem digF_cons (acc : Int) (d : Nat) (h : d < 10) (r : List UInt8) : digF acc (UInt8.ofNat (48 + d) :: r) = digF (10 * acc + d) r := by
  rw [digF, if_pos ((isD_iff _).2 ⟨d, h, rfl⟩), toNat48 d h]
  congr 1; omega
theorem zero_iff (d : Nat) (h : d < 10) : UInt8.ofNat (48 + d) = 48 ↔ d = 0 := by
  constructor
  · intro e
    have := congrArg UInt8.toNat e
    rw [toNat48 d h] at this
    have h48 : (48 : UInt8).toNat = 48 := rfl
    omega
  · rintro rfl; rfl
theorem decR_of (l : List UInt8) (most : Int) (n : Nat) (hm : most ≤ 255) (hn : (n : Int) ≤ most) (hl : l = dec3 n) : decR l most = n := by
  subst hl
  unfold dec3 decR
  by_cases h1 : n < 10
  · rw [if_pos h1, if_neg (by simp), digF_cons _ _ h1, digF]
    simp only []
    rw [if_neg (by omega)]; omega
  · rw [if_neg h1]
    by_cases h2 : n < 100
    · rw [if_pos h2, if_neg (by rintro (h | h | ⟨_, h⟩) <;> first | (exact absurd ((zero_iff (n / 10) (by omega)).1 h) (by omega)) | (simp at h)), digF_cons _ _ (by omega), digF_cons _ _ (by omega), digF]
      simp only []
      rw [if_neg (by omega)]; omega
    · rw [if_neg h2, if_neg (by rintro (h | h | ⟨_, h⟩) <;> first | (exact absurd ((zero_iff (n / 10 / 10) (by omega)).1 h) (by omega)) | (simp at h)), digF_cons _ _ (by omega), digF_cons _ _ (by omega), digF_cons _ _ (by omega), digF]
      simp only []
      rw [if_neg (by omega)]; omega
theorem decR_none (l : List UInt8) (most : Int) (h : ∀ n : Nat, (n : Int) ≤ most → l ≠ dec3 n) : decR l most = -1 := by
  unfold decR
  split
  · rfl
  · rename_i hc
    match l, h, hc with
    | [], _, hc => simp at hc
    | [a], h, _ =>
      by_cases ha : isD a = true
      · obtain ⟨x, hx, rfl⟩ := (isD_iff a).1 ha
        rw [digF_cons _ _ hx, digF]
        simp only []
        by_cases hm : most < 10 * 0 + (x : Int)
        · rw [if_pos hm]
        · exact absurd (by simp [dec3, hx]) (h x (by omega))
      · rw [digF, if_neg ha]
    | [a, b], h, hc =>
      by_cases ha : isD a = true
      · obtain ⟨x, hx, rfl⟩ := (isD_iff a).1 ha
        rw [digF_cons _ _ hx]
        by_cases hb : isD b = true
        · obtain ⟨y, hy, rfl⟩ := (isD_iff b).1 hb
          rw [digF_cons _ _ hy, digF]
          simp only []
          have hx0 : x ≠ 0 := by intro e; subst e; exact hc (.inr (.inr ⟨by simp, rfl⟩))
          by_cases hm : most < 10 * (10 * 0 + (x : Int)) + y
          · rw [if_pos hm]
          · refine absurd ?_ (h (10 * x + y) (by omega))
            have e1 : (10 * x + y) / 10 = x := by omega
            have e2 : (10 * x + y) % 10 = y := by omega
            unfold dec3; rw [if_neg (by omega), if_pos (by omega), e1, e2]
        · rw [digF, if_neg hb]
      · rw [digF, if_neg ha]
    | [a, b, c], h, hc =>
      by_cases ha : isD a = true
      · obtain ⟨x, hx, rfl⟩ := (isD_iff a).1 ha
        rw [digF_cons _ _ hx]
        by_cases hb : isD b = true
        · obtain ⟨y, hy, rfl⟩ := (isD_iff b).1 hb
          rw [digF_cons _ _ hy]
          by_cases hcc : isD c = true
          · obtain ⟨z, hz, rfl⟩ := (isD_iff c).1 hcc
            rw [digF_cons _ _ hz, digF]
            simp only []
            have hx0 : x ≠ 0 := by intro e; subst e; exact hc (.inr (.inr ⟨by simp, rfl⟩))
            by_cases hm : most < 10 * (10 * (10 * 0 + (x : Int)) + y) + z
            · rw [if_pos hm]
            · refine absurd ?_ (h (100 * x + 10 * y + z) (by omega))
              have e1 : (100 * x + 10 * y + z) / 10 / 10 = x := by omega
              have e2 : (100 * x + 10 * y + z) / 10 % 10 = y := by omega
              have e3 : (100 * x + 10 * y + z) % 10 = z := by omega
              unfold dec3; rw [if_neg (by omega), if_neg (by omega), e1, e2, e3]
          · rw [digF, if_neg hcc]
        · rw [digF, if_neg hb]
      · rw [digF, if_neg ha]
    | a :: b :: c :: d :: r, _, hc => exact absurd (.inr (.inl (by simp))) hc
/-- THE PROGRAM's AND THE REFERENCE's ARE THE SAME. -/
theorem dec_eq (l : List UInt8) (most : Int) (hm : most ≤ 255) : decP l most = decR l most := by
  by_cases h : ∃ n : Nat, (n : Int) ≤ most ∧ l = dec3 n
  · obtain ⟨n, hn, hl⟩ := h
    rw [decP_of l most n hm hn hl, decR_of l most n hm hn hl]
  · have h' : ∀ n : Nat, (n : Int) ≤ most → l ≠ dec3 n := fun n hn hl => h ⟨n, hn, hl⟩
    rw [decP_none l most hm h', decR_none l most h']
theorem decR_range (l : List UInt8) (most : Int) (hm : most ≤ 255) : -1 ≤ decR l most ∧ decR l most ≤ 255 := by
  by_cases h : ∃ n : Nat, (n : Int) ≤ most ∧ l = dec3 n
  · obtain ⟨n, hn, hl⟩ := h
    rw [decR_of l most n hm hn hl]; omega
  · rw [decR_none l most (fun n hn hl => h ⟨n, hn, hl⟩)]; omega
end Go.Proofs.YthpjneobmmpbnaaGreatDoor
namespace Go.Proofs.YthpjneobmmpbnaaGreatDoor
open Go.Lib

/-- how far it is to the first byte of that kind (to the end, if there is none) -/
def untilN (c : UInt8) : List UInt8 → Nat
  | [] => 0
  | b :: r => if b = c then 0 else untilN c r + 1
theorem untilN_le (c : UInt8) : ∀ l : List UInt8, untilN c l ≤ l.length
  | [] => Nat.le_refl _
  | b :: r => by have := untilN_le c r; unfold untilN; split <;> simp <;> omega
theorem index_one (c : UInt8) : ∀ l : List UInt8, index l [c] = if untilN c l = l.length then -1 else (untilN c l : Int)
  | [] => rfl
  | b :: r => by
    have ih := index_one c r
    have hle := untilN_le c r
    unfold index untilN
    by_cases h : b = c
    · subst h; simp
    · have hp : ([c].isPrefixOf (b :: r)) = false := by simp [List.isPrefixOf, Ne.symm h]
      rw [hp, if_neg h, ih]
      by_cases h2 : untilN c r = r.length
      · simp [h2]
      · have h3 : ¬ ((untilN c r : Int) = -1) := by omega
        simp [h2]
        try omega
/-- the pieces' numbers, one behind the other -/
def foldD (st : Int → Int → Int) : Int → List (List UInt8) → Option Int
  | acc, [] => some acc
  | acc, p :: r => if decP p 255 < 0 then none else foldD st (st acc (decP p 255)) r
/-- the program's address -/
def addrP (st : Int → Int → Int) (l : List UInt8) : Option Int := if (split l [46]).length ≠ 4 then none else foldD st 0 (split l [46])
end Go.Proofs.YthpjneobmmpbnaaGreatDoor
namespace Go.Proofs.YthpjneobmmpbnaaGreatDoor

theorem indexByte_until (c : UInt8) : ∀ l : List UInt8, Lib.indexByte l c = if untilN c l = l.length then -1 else (untilN c l : Int)
  | [] => rfl
  | b :: r => by
    have ih := indexByte_until c r
    have hle := untilN_le c r
    unfold Lib.indexByte untilN
    by_cases h : b = c
    · subst h; simp
    · have h' : (b == c) = false := by simp [h]
      rw [h', if_neg h, ih]
      by_cases h2 : untilN c r = r.length
      · simp [h2]
      · have h3 : ¬ ((untilN c r : Int) = -1) := by omega
        simp [h2]
        try omega
theorem cut_until (c : UInt8) (l : List UInt8) : Lib.cut l [c] = if untilN c l = l.length then (l, [], false) else (l.take (untilN c l), l.drop (untilN c l + 1), true) := by
  have hi := index_one c l
  unfold Lib.cut
  rw [hi]
  by_cases h : untilN c l = l.length
  · simp [h]
  · have : ¬ ((untilN c l : Int) = -1) := by omega
    simp [h]
    try omega
abbrev IdV := ByteArray × ByteArray
abbrev AclV := Int × ByteArray × ByteArray
def sDigest : ByteArray := ⟨#[100, 105, 103, 101, 115, 116]⟩
def sIp : ByteArray := ⟨#[105, 112]⟩
def sSuper : ByteArray := ⟨#[115, 117, 112, 101, 114]⟩
/-- a number and the next byte's -/
def stA (a n : Int) : Int := a * 256 + n
def adr (s : ByteArray) : Option Int := addrP stA s.data.toList
def digestP (s : ByteArray) : Bool := decide (0 < untilN 58 s.data.toList) && decide (untilN 58 s.data.toList < s.size)
def identP (x : IdV) : Bool :=
  textOk x.1 && textOk x.2 && (if x.1 = sDigest then digestP x.2 else if x.1 = sIp then (adr x.2).isSome else decide (x.1 = sSuper))
/-- have two lists of bits one in common? -/
def hit (a p : Int) : Bool := decide (BitVec.ofInt 32 a &&& BitVec.ofInt 32 p ≠ 0#32)
end Go.Proofs.YthpjneobmmpbnaaGreatDoor

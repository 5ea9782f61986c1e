/- Plain facts on characters of a text: what stands at a place (the model's own decode), its kind; the reference's way to read a character, byte by byte, gives the same. No program in sight; no condition. -/
import Derived.Lib.DecodeN
import Derived.Lib.TrimU
import Derived.Lib.QuoteLoop
import Derived.Lib.IndexBytes
import Derived.Test.YtenhdbjkpopfmaaDoorRKind
namespace Go.Proofs.YtenhdbjkpopfmaaDoor

/-- The rune that the reference tells at a place: -1 of a broken one. -/
def charR (s : ByteArray) (p : Nat) : Int := if (Utf8.decode s p).1 = 65533 ∧ (Utf8.decode s p).2 = 1 then -1 else ((Utf8.decode s p).1 : Int)
/-- How many bytes the character at a place has. -/
def charW (s : ByteArray) (p : Nat) : Nat := (Utf8.decode s p).2
/-- The kind of the character at a place. -/
def charK (s : ByteArray) (p : Nat) : Int := if (Utf8.decode s p).1 = 65533 ∧ (Utf8.decode s p).2 = 1 then 8 else kindI ((Utf8.decode s p).1 : Int)

theorem charW_pos (s : ByteArray) (p : Nat) : 1 ≤ charW s p := Lib.width_pos s p
theorem decodeN_w4 (n b0 b1 b2 b3 : Nat) : (Lib.decodeN n b0 b1 b2 b3).2 ≤ 4 := by
  unfold Lib.decodeN; repeat' split
  all_goals simp
theorem charW_le4 (s : ByteArray) (p : Nat) : charW s p ≤ 4 := by unfold charW; rw [Lib.decode_at]; exact decodeN_w4 _ _ _ _ _
theorem charW_le (s : ByteArray) (p : Nat) (h : p < s.size) : p + charW s p ≤ s.size := by
  unfold charW; rw [Lib.decode_at]; have := Lib.decodeN_width_le (s.size - p) (s.get! p).toNat (s.get! (p + 1)).toNat (s.get! (p + 2)).toNat (s.get! (p + 3)).toNat (by omega); omega
theorem decode_le (s : ByteArray) (p : Nat) : (Utf8.decode s p).1 ≤ 1114111 := Lib.rune_le s p
theorem charR_range (s : ByteArray) (p : Nat) : -1 ≤ charR s p ∧ charR s p ≤ 1114111 := by
  have := decode_le s p; unfold charR; split <;> omega
theorem charK_range (s : ByteArray) (p : Nat) : 1 ≤ charK s p ∧ charK s p ≤ 8 := by
  have := decode_le s p; have := kindI_range ((Utf8.decode s p).1 : Int); unfold charK; split
  · omega
  · refine ⟨?_, by omega⟩; unfold kindI; repeat' split
    all_goals omega
/-- What 'Of' makes of the reference's rune. -/
def ofI (r : Int) : Int := if r < 0 then 8 else kindI r
theorem ofI_charR (s : ByteArray) (p : Nat) : ofI (charR s p) = charK s p := by
  unfold ofI charR charK; split
  · rfl
  · rw [if_neg (by omega)]

theorem get_eq (s : ByteArray) (i : Nat) (h : i < s.size) : s.get! i = s[i] := by
  show s.data[i]! = s.data[i]
  rw [getElem!_pos s.data i h]
theorem byteU (s : ByteArray) (i : Nat) : (s.get! i).toNat < 256 := UInt8.toNat_lt _

/-- U+FFFD stands rightly at a place just where its three bytes stand there. -/
theorem fffd_iff (n b0 b1 b2 b3 : Nat) (h0 : b0 < 256) (h : (Lib.decodeN n b0 b1 b2 b3).1 = 65533) :
    ((Lib.decodeN n b0 b1 b2 b3).2 = 1) ↔ ¬ (3 ≤ n ∧ b0 = 239 ∧ b1 = 191 ∧ b2 = 189) := by
  revert h; unfold Lib.decodeN; repeat' split
  all_goals (simp; try omega)

theorem hasPrefix_three (l : List UInt8) (a b c : UInt8) : Lib.hasPrefix l [a, b, c] = true ↔ (3 ≤ l.length ∧ l.getD 0 0 = a ∧ l.getD 1 0 = b ∧ l.getD 2 0 = c) := by
  match l with
  | [] => simp [Lib.hasPrefix]
  | [x] => simp [Lib.hasPrefix]
  | [x, y] => simp [Lib.hasPrefix]
  | x :: y :: z :: t =>
    simp [Lib.hasPrefix]
    constructor
    · rintro ⟨rfl, rfl, rfl⟩; exact ⟨rfl, rfl, rfl⟩
    · rintro ⟨rfl, rfl, rfl⟩; exact ⟨rfl, rfl, rfl⟩

theorem getD_drop (s : ByteArray) (p k : Nat) : (s.data.toList.drop p).getD k 0 = s.get! (p + k) := by
  rw [List.getD_eq_getElem?_getD, List.getElem?_drop]
  show _ = s.data[p + k]!
  by_cases h : p + k < s.data.size
  · rw [getElem!_pos s.data _ h]; simp [Array.getElem?_eq_getElem h]
  · rw [getElem!_neg s.data _ h]; simp [Array.getElem?_eq_none (Nat.not_lt.1 h)]; rfl

/-- What 'of' asks of the text behind the place: whether U+FFFD's bytes stand there. -/
theorem prefix_fffd (s : ByteArray) (p : Nat) (h : (Utf8.decode s p).1 = 65533) :
    Lib.hasPrefix (s.extract p s.size).data.toList [239, 191, 189] = !decide ((Utf8.decode s p).2 = 1) := by
  rw [Lib.extract_to_end]
  have e := hasPrefix_three (s.data.toList.drop p) 239 191 189
  rw [getD_drop, getD_drop, getD_drop] at e
  have k := fffd_iff (s.size - p) (s.get! p).toNat (s.get! (p + 1)).toNat (s.get! (p + 2)).toNat (s.get! (p + 3)).toNat (byteU _ _) (by rw [← Lib.decode_at]; exact h)
  rw [← Lib.decode_at] at k
  have hl : (s.data.toList.drop p).length = s.size - p := by simp
  rw [hl] at e
  have u : ∀ (x y : UInt8), x = y ↔ x.toNat = y.toNat := fun x y => UInt8.toNat_inj.symm
  simp only [u, Nat.add_zero] at e
  have n1 : (239 : UInt8).toNat = 239 := rfl
  have n2 : (191 : UInt8).toNat = 191 := rfl
  have n3 : (189 : UInt8).toNat = 189 := rfl
  rw [n1, n2, n3] at e
  rw [Bool.eq_iff_iff, e]
  simp only [Bool.not_eq_true', decide_eq_false_iff_not]
  rw [k]; simp

/-! ### The reference's way to read a character -/
def contN (n j b : Nat) : Prop := j < n ∧ 128 ≤ b ∧ b < 192
set_option maxRecDepth 100000 in
theorem dec2_ok (n b0 b1 b2 b3 : Nat) (h : 192 ≤ b0 ∧ b0 < 224) (c1 : contN n 1 b1) :
    Lib.decodeN n b0 b1 b2 b3 = if 64 * (b0 - 192) + b1 - 128 < 128 then (65533, 1) else (64 * (b0 - 192) + b1 - 128, 2) := by
  unfold contN at c1; unfold Lib.decodeN; repeat' split
  all_goals first | (exfalso; omega) | (apply Prod.ext <;> simp only <;> omega)
set_option maxRecDepth 100000 in
theorem dec2_no (n b0 b1 b2 b3 : Nat) (h : 192 ≤ b0 ∧ b0 < 224) (hb : b1 < 256) (c1 : ¬ contN n 1 b1) : Lib.decodeN n b0 b1 b2 b3 = (65533, 1) := by
  unfold contN at c1; unfold Lib.decodeN; repeat' split
  all_goals first | rfl | (exfalso; omega)
set_option maxRecDepth 100000 in
theorem dec3_ok (n b0 b1 b2 b3 : Nat) (h : 224 ≤ b0 ∧ b0 < 240) (c1 : contN n 1 b1) (c2 : contN n 2 b2) :
    Lib.decodeN n b0 b1 b2 b3 = if 64 * (64 * (b0 - 224) + b1 - 128) + b2 - 128 < 2048 ∨ (55296 ≤ 64 * (64 * (b0 - 224) + b1 - 128) + b2 - 128 ∧ 64 * (64 * (b0 - 224) + b1 - 128) + b2 - 128 ≤ 57343) then (65533, 1) else (64 * (64 * (b0 - 224) + b1 - 128) + b2 - 128, 3) := by
  unfold contN at c1 c2; unfold Lib.decodeN; repeat' split
  all_goals first | rfl | (exfalso; omega) | (apply Prod.ext <;> simp only <;> omega)
set_option maxRecDepth 100000 in
theorem dec3_no (n b0 b1 b2 b3 : Nat) (h : 224 ≤ b0 ∧ b0 < 240) (hb : b1 < 256) (hb2 : b2 < 256) (c1 : ¬ contN n 1 b1 ∨ ¬ contN n 2 b2) : Lib.decodeN n b0 b1 b2 b3 = (65533, 1) := by
  unfold contN at c1; unfold Lib.decodeN; repeat' split
  all_goals first | rfl | (exfalso; omega)
set_option maxRecDepth 100000 in
theorem dec4_ok (n b0 b1 b2 b3 : Nat) (h : 240 ≤ b0 ∧ b0 < 248) (c1 : contN n 1 b1) (c2 : contN n 2 b2) (c3 : contN n 3 b3) :
    Lib.decodeN n b0 b1 b2 b3 = if 64 * (64 * (64 * (b0 - 240) + b1 - 128) + b2 - 128) + b3 - 128 < 65536 ∨ 1114111 < 64 * (64 * (64 * (b0 - 240) + b1 - 128) + b2 - 128) + b3 - 128 then (65533, 1) else (64 * (64 * (64 * (b0 - 240) + b1 - 128) + b2 - 128) + b3 - 128, 4) := by
  unfold contN at c1 c2 c3; unfold Lib.decodeN; repeat' split
  all_goals first | rfl | (exfalso; omega) | (apply Prod.ext <;> simp only <;> omega)
set_option maxRecDepth 100000 in
theorem dec4_no (n b0 b1 b2 b3 : Nat) (h : 240 ≤ b0 ∧ b0 < 248) (hb : b1 < 256) (hb2 : b2 < 256) (hb3 : b3 < 256) (c1 : ¬ contN n 1 b1 ∨ ¬ contN n 2 b2 ∨ ¬ contN n 3 b3) : Lib.decodeN n b0 b1 b2 b3 = (65533, 1) := by
  unfold contN at c1; unfold Lib.decodeN; repeat' split
  all_goals first | rfl | (exfalso; omega)
set_option maxRecDepth 100000 in
theorem dec_other (n b0 b1 b2 b3 : Nat) (h : 128 ≤ b0 ∧ b0 < 192 ∨ 248 ≤ b0 ∧ b0 < 256) : Lib.decodeN n b0 b1 b2 b3 = (65533, 1) := by
  unfold Lib.decodeN; repeat' split
  all_goals first | rfl | (exfalso; omega)
end Go.Proofs.YtenhdbjkpopfmaaDoor

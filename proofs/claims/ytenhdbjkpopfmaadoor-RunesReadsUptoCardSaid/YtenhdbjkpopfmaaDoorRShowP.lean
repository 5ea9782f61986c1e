/- Plain facts on the showing of a text: what is written for each character; no program in sight. -/
import Derived.Test.YtenhdbjkpopfmaaDoorRCharP
import Derived.Lib.MapLaws
import Derived.Lib.RuneBytes
namespace Go.Proofs.YtenhdbjkpopfmaaDoor

def hexd (n : Nat) : UInt8 := if n < 10 then (48 + n).toUInt8 else (87 + n).toUInt8
def escB (c : UInt8) : List UInt8 := [92, 120, hexd (c.toNat / 16), hexd (c.toNat % 16)]
/-- the bytes of the character at a place -/
def bytesAt (s : ByteArray) (p : Nat) : List UInt8 := (s.data.toList.drop p).take (charW s p)
def showItem (s : ByteArray) (p : Nat) : List UInt8 :=
  if charR s p = 34 ∨ charR s p = 92 then [92, s.get! p] else if charK s p = 1 then bytesAt s p else (bytesAt s p).flatMap escB
def showF (s : ByteArray) : Nat → Nat → List UInt8
  | 0, _ => []
  | f + 1, p => if p < s.size then showItem s p ++ showF s f (p + charW s p) else []
def showL (s : ByteArray) : List UInt8 := [34] ++ showF s s.size 0 ++ [34]
theorem showF_end (s : ByteArray) (f p : Nat) (h : ¬ p < s.size) : showF s f p = [] := by cases f <;> simp [showF, h]
theorem showF_go (s : ByteArray) (f p : Nat) (h : p < s.size) : showF s (f + 1) p = showItem s p ++ showF s f (p + charW s p) := by simp [showF, h]
theorem bytesAt_length (s : ByteArray) (p : Nat) (h : p < s.size) : (bytesAt s p).length = charW s p := by
  have := charW_le s p h
  simp [bytesAt]; omega
theorem flatMap_escB_length (l : List UInt8) : (l.flatMap escB).length = 4 * l.length := by
  induction l with
  | nil => rfl
  | cons a t ih => rw [List.flatMap_cons, List.length_append, ih, List.length_cons]; simp [escB]; omega
theorem showItem_length (s : ByteArray) (p : Nat) (h : p < s.size) : (showItem s p).length ≤ 4 * charW s p := by
  have h1 := charW_pos s p
  have h2 := bytesAt_length s p h
  unfold showItem; split
  · simp; omega
  · split
    · omega
    · rw [flatMap_escB_length]; omega
/-- a character that is a mark stands as one byte, which is its number -/
theorem charR_ascii (s : ByteArray) (p : Nat) (c : Int) (hc : 0 ≤ c ∧ c < 128) (h : charR s p = c) : charW s p = 1 ∧ ((s.get! p).toNat : Int) = c ∧ charK s p = kindI c := by
  have hd : ((Utf8.decode s p).1 : Int) = c ∧ charK s p = kindI c := by
    unfold charR at h; unfold charK
    split at h
    · omega
    · rename_i hh; rw [if_neg hh, h]; exact ⟨rfl, rfl⟩
  refine ⟨?_, ?_, hd.2⟩
  all_goals (have h0 := hd.1; unfold charW at *; rw [Lib.decode_at] at *)
  · revert h0; unfold Lib.decodeN; repeat' split
    all_goals (simp; try omega)
  · revert h0; unfold Lib.decodeN; repeat' split
    all_goals (simp; try omega)
theorem decode_L (s : ByteArray) (p : Nat) : Utf8.decode s p = Lib.decodeL (s.data.toList.drop p) := by
  rw [Lib.decodeL_N, Lib.decode_N]
  have e : (s.data.toList.drop p).length = s.data.toList.length - p := by simp
  rw [e]
  have g : ∀ k, (s.data.toList.drop p).getD k 0 = s.data.toList.getD (p + k) 0 := fun k => by
    rw [List.getD_eq_getElem?_getD, List.getElem?_drop, List.getD_eq_getElem?_getD]
  rw [g 0, g 1, g 2, g 3]; rfl
theorem drop_ne (s : ByteArray) (p : Nat) (h : p < s.size) : s.data.toList.drop p ≠ [] := by
  intro e; have := congrArg List.length e; simp at this; omega
/-- a character that stands there rightly is written again as it stands -/
theorem encode_at (s : ByteArray) (p : Nat) (h : p < s.size) (hk : charK s p ≠ 8) : Lib.encodeRune ((Utf8.decode s p).1 : Int) = bytesAt s p := by
  have hv : ¬ ((Utf8.decode s p).1 = 65533 ∧ (Utf8.decode s p).2 = 1) := fun hh => hk (by unfold charK; rw [if_pos hh])
  unfold bytesAt charW
  rw [decode_L s p] at *
  exact Lib.encode_decode _ (drop_ne s p h) hv
theorem runeLen_at (s : ByteArray) (p : Nat) (h : p < s.size) (hk : charK s p ≠ 8) : ((Lib.runeCells ((Utf8.decode s p).1 : Int)).length : Int) = charW s p := by
  rw [Lib.runeCells_length, encode_at s p h hk, bytesAt_length s p h]
theorem fffd_w3 (n b0 b1 b2 b3 : Nat) (h : (Lib.decodeN n b0 b1 b2 b3).1 = 65533) (hw : (Lib.decodeN n b0 b1 b2 b3).2 ≠ 1) (h0 : b0 < 256) : (Lib.decodeN n b0 b1 b2 b3).2 = 3 := by
  revert h hw; unfold Lib.decodeN; repeat' split
  all_goals (simp; try omega)
/-- utf8.RuneLen of a character that stands there rightly -/
theorem runeLen_char (s : ByteArray) (p : Nat) (hk : charK s p ≠ 8) : Lib.runeLen ((Utf8.decode s p).1 : Int) = charW s p := by
  have hv : ¬ ((Utf8.decode s p).1 = 65533 ∧ (Utf8.decode s p).2 = 1) := fun hh => hk (by unfold charK; rw [if_pos hh])
  by_cases e : (Utf8.decode s p).1 = 65533
  · have h3 : (Utf8.decode s p).2 = 3 := by
      rw [Lib.decode_at] at *
      exact fffd_w3 _ _ _ _ _ e (fun h => hv ⟨e, h⟩) (byteU _ _)
    unfold charW; rw [h3, e]; rfl
  · unfold charW
    rw [decode_L s p] at *
    exact Lib.runeLen_decode _ e
/-- utf8.RuneLen of whatever a decode tells -/
theorem runeLen_range (r : Int) : -1 ≤ Lib.runeLen r ∧ Lib.runeLen r ≤ 4 := by
  unfold Lib.runeLen; repeat' split
  all_goals omega
end Go.Proofs.YtenhdbjkpopfmaaDoor

/- What runes.Kind and arborref01.Kind compute: one and the same table, as a plain function on integers. -/
import Derived.Test.YthpjneobmmpbnaaGreatDoorRows
import Derived.WalkKit
import Derived.ProofKit
import Derived.IntWalk
import Derived.WalkLawsBesides
import Derived.WalkSpells
import Derived.Lib.DecodeN
import Derived.Lib.TrimU
import Derived.Lib.QuoteLoop
import Derived.Lib.IndexBytes
import Derived.Test.YthpjneobmmpbnaaGreatDoorGShelf
import Derived.LoopTactic
import Derived.Lib.Hide
namespace Go.Proofs.YthpjneobmmpbnaaGreatDoor
open Go.RowKit

/-- The kinds of the document's table. -/
def kindI (r : Int) : Int :=
  if r < 0 ∨ 1114111 < r then 0 else if r = 0 then 2 else if r ≤ 31 ∨ (127 ≤ r ∧ r ≤ 159) then 3 else if 55296 ≤ r ∧ r ≤ 57343 then 4
  else if 57344 ≤ r ∧ r ≤ 63743 then 5 else if 65520 ≤ r ∧ r ≤ 65535 then 6 else if 65536 ≤ r then 7 else 1

theorem ret_i64 {a b : Int} (h : a = b) : Ending.returned (.int .i64 a) = .returned (.int .i64 b) := by rw [h]

set_option maxHeartbeats 400000 in
theorem kind_any (r : Int) (w : World) :
    Calls Tryz.prog 193 #[.int .i32 r] w fun e w' => e = .returned (.int .i64 (kindI r)) ∧ w = w' := by
  go_enter Tryz.func193, Tryz.ntmps193
  go_wp2
  all_goals
    go_ret
    refine ⟨ret_i64 ?_, rfl⟩
    try simp only [beq_iff_eq, beq_eq_false_iff_ne, ne_eq] at *
    unfold kindI
    (repeat' split) <;> omega

end Go.Proofs.YthpjneobmmpbnaaGreatDoor
namespace Go.Proofs.YthpjneobmmpbnaaGreatDoor

/-- How many bytes the character at a place has. -/
def charW (s : ByteArray) (p : Nat) : Nat := (Utf8.decode s p).2
/-- The kind of the character at a place. -/
def charK (s : ByteArray) (p : Nat) : Int := if (Utf8.decode s p).1 = 65533 ∧ (Utf8.decode s p).2 = 1 then 8 else kindI ((Utf8.decode s p).1 : Int)

theorem charW_pos (s : ByteArray) (p : Nat) : 1 ≤ charW s p := Lib.width_pos s p
theorem decodeN_w4 (n b0 b1 b2 b3 : Nat) : (Lib.decodeN n b0 b1 b2 b3).2 ≤ 4 := by
  unfold Lib.decodeN; repeat' split
  all_goals simp
theorem charW_le4 (s : ByteArray) (p : Nat) : charW s p ≤ 4 := by unfold charW; rw [Lib.decode_at]; exact decodeN_w4 _ _ _ _ _
theorem charW_le (s : ByteArray) (p : Nat) (h : p < s.size) : p + charW s p ≤ s.size := by
  unfold charW; rw [Lib.decode_at]; have := Lib.decodeN_width_le (s.size - p) (s.get! p).toNat (s.get! (p + 1)).toNat (s.get! (p + 2)).toNat (s.get! (p + 3)).toNat (by omega); omega
theorem decode_le (s : ByteArray) (p : Nat) : (Utf8.decode s p).1 ≤ 1114111 := Lib.rune_le s p
theorem get_eq (s : ByteArray) (i : Nat) (h : i < s.size) : s.get! i = s[i] := by
  show s.data[i]! = s.data[i]
  rw [getElem!_pos s.data i h]
theorem byteU (s : ByteArray) (i : Nat) : (s.get! i).toNat < 256 := UInt8.toNat_lt _

/-- U+FFFD stands rightly at a place just where its three bytes stand there. -/
theorem fffd_iff (n b0 b1 b2 b3 : Nat) (h0 : b0 < 256) (h : (Lib.decodeN n b0 b1 b2 b3).1 = 65533) :
    ((Lib.decodeN n b0 b1 b2 b3).2 = 1) ↔ ¬ (3 ≤ n ∧ b0 = 239 ∧ b1 = 191 ∧ b2 = 189) := by
  revert h; unfold Lib.decodeN; repeat' split
  all_goals (simp; try omega)

theorem hasPrefix_three (l : List UInt8) (a b c : UInt8) : Lib.hasPrefix l [a, b, c] = true ↔ (3 ≤ l.length ∧ l.getD 0 0 = a ∧ l.getD 1 0 = b ∧ l.getD 2 0 = c) := by
  match l with
  | [] => simp [Lib.hasPrefix]
  | [x] => simp [Lib.hasPrefix]
  | [x, y] => simp [Lib.hasPrefix]
  | x :: y :: z :: t =>
    simp [Lib.hasPrefix]
    constructor
    · rintro ⟨rfl, rfl, rfl⟩; exact ⟨rfl, rfl, rfl⟩
    · rintro ⟨rfl, rfl, rfl⟩; exact ⟨rfl, rfl, rfl⟩

theorem getD_drop (s : ByteArray) (p k : Nat) : (s.data.toList.drop p).getD k 0 = s.get! (p + k) := by
  rw [List.getD_eq_getElem?_getD, List.getElem?_drop]
  show _ = s.data[p + k]!
  by_cases h : p + k < s.data.size
  · rw [getElem!_pos s.data _ h]; simp [Array.getElem?_eq_getElem h]
  · rw [getElem!_neg s.data _ h]; simp [Array.getElem?_eq_none (Nat.not_lt.1 h)]; rfl

/-- What 'of' asks of the text behind the place: whether U+FFFD's bytes stand there. -/
theorem prefix_fffd (s : ByteArray) (p : Nat) (h : (Utf8.decode s p).1 = 65533) :
    Lib.hasPrefix (s.extract p s.size).data.toList [239, 191, 189] = !decide ((Utf8.decode s p).2 = 1) := by
  rw [Lib.extract_to_end]
  have e := hasPrefix_three (s.data.toList.drop p) 239 191 189
  rw [getD_drop, getD_drop, getD_drop] at e
  have k := fffd_iff (s.size - p) (s.get! p).toNat (s.get! (p + 1)).toNat (s.get! (p + 2)).toNat (s.get! (p + 3)).toNat (byteU _ _) (by rw [← Lib.decode_at]; exact h)
  rw [← Lib.decode_at] at k
  have hl : (s.data.toList.drop p).length = s.size - p := by simp
  rw [hl] at e
  have u : ∀ (x y : UInt8), x = y ↔ x.toNat = y.toNat := fun x y => UInt8.toNat_inj.symm
  simp only [u, Nat.add_zero] at e
  have n1 : (239 : UInt8).toNat = 239 := rfl
  have n2 : (191 : UInt8).toNat = 191 := rfl
  have n3 : (189 : UInt8).toNat = 189 := rfl
  rw [n1, n2, n3] at e
  rw [Bool.eq_iff_iff, e]
  simp only [Bool.not_eq_true', decide_eq_false_iff_not]
  rw [k]; simp

/-! ### The reference's way to read a character -/
end Go.Proofs.YthpjneobmmpbnaaGreatDoor
namespace Go.Proofs.YthpjneobmmpbnaaGreatDoor
open Go.RowKit

set_option maxHeartbeats 400000 in
theorem of_any (s : ByteArray) (p : Nat) (hp : p < s.size) (_hs : s.size ≤ 140737488355328) (w : World) :
    Calls Tryz.prog 146 #[.string s, .int .i64 p, .int .i32 (Utf8.decode s p).1] w fun e w' => e = .returned (.int .i64 (charK s p)) ∧ w = w' := by
  by_cases h : (Utf8.decode s p).1 = 65533
  · have hpre := prefix_fffd s p h
    by_cases h1 : (Utf8.decode s p).2 = 1
    · have hk : charK s p = 8 := by unfold charK; rw [if_pos ⟨h, h1⟩]
      have H := Lib.hid hk; clear hk
      have H2 : Lib.hasPrefix (s.extract p s.size).data.toList [239, 191, 189] = false := by rw [hpre, h1]; rfl
      clear hpre h1
      generalize (Utf8.decode s p).1 = d at *
      subst h
      go_enter Tryz.func146, Tryz.ntmps146
      go_wp2_with (go_at_call 192; refine (Tryz.strings_HasPrefix _ _ _).mono ?_; rintro e w' ⟨rfl, rfl⟩; simp only [H2])
      go_ret
      exact ⟨ret_i64 (by rw [H.out]), rfl⟩
    · have hk : charK s p = kindI 65533 := by unfold charK; rw [if_neg (fun hh => h1 hh.2), h]; rfl
      have H := Lib.hid hk; clear hk
      have H2 : Lib.hasPrefix (s.extract p s.size).data.toList [239, 191, 189] = true := by rw [hpre]; simp [h1]
      clear hpre h1
      generalize (Utf8.decode s p).1 = d at *
      subst h
      go_enter Tryz.func146, Tryz.ntmps146
      go_wp2_with (first | (go_at_call 192; refine (Tryz.strings_HasPrefix _ _ _).mono ?_; rintro e w' ⟨rfl, rfl⟩; simp only [H2]) | (go_at_call 193; refine (kind_any _ _).mono ?_; rintro e w' ⟨rfl, rfl⟩))
      go_ret
      exact ⟨ret_i64 (by rw [H.out]), rfl⟩
  · have hk : charK s p = kindI ((Utf8.decode s p).1 : Int) := by unfold charK; rw [if_neg (fun hh => h hh.1)]
    have H := Lib.hid hk; clear hk
    generalize (Utf8.decode s p).1 = d at *
    have hb : (((d : Nat) : Int) == 65533) = false := by simp; omega
    go_enter Tryz.func146, Tryz.ntmps146
    go_wp2_with (go_at_call 193; refine (kind_any _ _).mono ?_; rintro e w' ⟨rfl, rfl⟩)
    go_ret
    exact ⟨ret_i64 (by rw [H.out]), rfl⟩

end Go.Proofs.YthpjneobmmpbnaaGreatDoor

/- What runes.Kind and arborref01.Kind compute: one and the same table, as a plain function on integers. -/
import Derived.Test.YthpjneobmmpbnaaGreatDoorRows
import Derived.WalkKit
import Derived.ProofKit
import Derived.IntWalk
import Derived.WalkLawsBesides
import Derived.WalkSpells
import Derived.Lib.DecodeN
import Derived.Lib.TrimU
import Derived.Lib.QuoteLoop
import Derived.Lib.IndexBytes
namespace Go.Proofs.YthpjneobmmpbnaaGreatDoor
open Go.RowKit

/-- The kinds of the document's table. -/
def kindI (r : Int) : Int :=
  if r < 0 ∨ 1114111 < r then 0 else if r = 0 then 2 else if r ≤ 31 ∨ (127 ≤ r ∧ r ≤ 159) then 3 else if 55296 ≤ r ∧ r ≤ 57343 then 4
  else if 57344 ≤ r ∧ r ≤ 63743 then 5 else if 65520 ≤ r ∧ r ≤ 65535 then 6 else if 65536 ≤ r then 7 else 1

theorem ret_i64 {a b : Int} (h : a = b) : Ending.returned (.int .i64 a) = .returned (.int .i64 b) := by rw [h]

set_option maxHeartbeats 400000 in
theorem kind_any (r : Int) (w : World) :
    Calls Tryz.prog 193 #[.int .i32 r] w fun e w' => e = .returned (.int .i64 (kindI r)) ∧ w = w' := by
  go_enter Tryz.func193, Tryz.ntmps193
  go_wp2
  all_goals
    go_ret
    refine ⟨ret_i64 ?_, rfl⟩
    try simp only [beq_iff_eq, beq_eq_false_iff_ne, ne_eq] at *
    unfold kindI
    (repeat' split) <;> omega

set_option maxHeartbeats 400000 in
theorem refKind_any (r : Int) (w : World) :
    Calls Tryz.prog 195 #[.int .i64 r] w fun e w' => e = .returned (.int .i64 (kindI r)) ∧ w = w' := by
  go_enter Tryz.func195, Tryz.ntmps195
  go_wp2
  all_goals
    go_ret
    refine ⟨ret_i64 ?_, rfl⟩
    try simp only [beq_iff_eq, beq_eq_false_iff_ne, ne_eq] at *
    unfold kindI
    (repeat' split) <;> omega
end Go.Proofs.YthpjneobmmpbnaaGreatDoor
namespace Go.Proofs.YthpjneobmmpbnaaGreatDoor

/-- The rune that the reference tells at a place: -1 of a broken one. -/
def charR (s : ByteArray) (p : Nat) : Int := if (Utf8.decode s p).1 = 65533 ∧ (Utf8.decode s p).2 = 1 then -1 else ((Utf8.decode s p).1 : Int)
/-- How many bytes the character at a place has. -/
def charW (s : ByteArray) (p : Nat) : Nat := (Utf8.decode s p).2
/-- The kind of the character at a place. -/
def charK (s : ByteArray) (p : Nat) : Int := if (Utf8.decode s p).1 = 65533 ∧ (Utf8.decode s p).2 = 1 then 8 else kindI ((Utf8.decode s p).1 : Int)

theorem charW_pos (s : ByteArray) (p : Nat) : 1 ≤ charW s p := Lib.width_pos s p
theorem decodeN_w4 (n b0 b1 b2 b3 : Nat) : (Lib.decodeN n b0 b1 b2 b3).2 ≤ 4 := by
  unfold Lib.decodeN; repeat' split
  all_goals simp
theorem charW_le4 (s : ByteArray) (p : Nat) : charW s p ≤ 4 := by unfold charW; rw [Lib.decode_at]; exact decodeN_w4 _ _ _ _ _
theorem charW_le (s : ByteArray) (p : Nat) (h : p < s.size) : p + charW s p ≤ s.size := by
  unfold charW; rw [Lib.decode_at]; have := Lib.decodeN_width_le (s.size - p) (s.get! p).toNat (s.get! (p + 1)).toNat (s.get! (p + 2)).toNat (s.get! (p + 3)).toNat (by omega); omega
theorem decode_le (s : ByteArray) (p : Nat) : (Utf8.decode s p).1 ≤ 1114111 := Lib.rune_le s p
/-- What 'Of' makes of the reference's rune. -/
def ofI (r : Int) : Int := if r < 0 then 8 else kindI r
theorem ofI_charR (s : ByteArray) (p : Nat) : ofI (charR s p) = charK s p := by
  unfold ofI charR charK; split
  · rfl
  · rw [if_neg (by omega)]

theorem get_eq (s : ByteArray) (i : Nat) (h : i < s.size) : s.get! i = s[i] := by
  show s.data[i]! = s.data[i]
  rw [getElem!_pos s.data i h]
theorem byteU (s : ByteArray) (i : Nat) : (s.get! i).toNat < 256 := UInt8.toNat_lt _

/-- U+FFFD stands rightly at a place just where its three bytes stand there. -/
theorem fffd_iff (n b0 b1 b2 b3 : Nat) (h0 : b0 < 256) (h : (Lib.decodeN n b0 b1 b2 b3).1 = 65533) :
    ((Lib.decodeN n b0 b1 b2 b3).2 = 1) ↔ ¬ (3 ≤ n ∧ b0 = 239 ∧ b1 = 191 ∧ b2 = 189) := by
  revert h; unfold Lib.decodeN; repeat' split
  all_goals (simp; try omega)

theorem hasPrefix_three (l : List UInt8) (a b c : UInt8) : Lib.hasPrefix l [a, b, c] = true ↔ (3 ≤ l.length ∧ l.getD 0 0 = a ∧ l.getD 1 0 = b ∧ l.getD 2 0 = c) := by
  match l with
  | [] => simp [Lib.hasPrefix]
  | [x] => simp [Lib.hasPrefix]
  | [x, y] => simp [Lib.hasPrefix]
  | x :: y :: z :: t =>
    simp [Lib.hasPrefix]
    constructor
    · rintro ⟨rfl, rfl, rfl⟩; exact ⟨rfl, rfl, rfl⟩
    · rintro ⟨rfl, rfl, rfl⟩; exact ⟨rfl, rfl, rfl⟩

theorem getD_drop (s : ByteArray) (p k : Nat) : (s.data.toList.drop p).getD k 0 = s.get! (p + k) := by
  rw [List.getD_eq_getElem?_getD, List.getElem?_drop]
  show _ = s.data[p + k]!
  by_cases h : p + k < s.data.size
  · rw [getElem!_pos s.data _ h]; simp [Array.getElem?_eq_getElem h]
  · rw [getElem!_neg s.data _ h]; simp [Array.getElem?_eq_none (Nat.not_lt.1 h)]; rfl

/-- What 'of' asks of the text behind the place: whether U+FFFD's bytes stand there. -/
theorem prefix_fffd (s : ByteArray) (p : Nat) (h : (Utf8.decode s p).1 = 65533) :
    Lib.hasPrefix (s.extract p s.size).data.toList [239, 191, 189] = !decide ((Utf8.decode s p).2 = 1) := by
  rw [Lib.extract_to_end]
  have e := hasPrefix_three (s.data.toList.drop p) 239 191 189
  rw [getD_drop, getD_drop, getD_drop] at e
  have k := fffd_iff (s.size - p) (s.get! p).toNat (s.get! (p + 1)).toNat (s.get! (p + 2)).toNat (s.get! (p + 3)).toNat (byteU _ _) (by rw [← Lib.decode_at]; exact h)
  rw [← Lib.decode_at] at k
  have hl : (s.data.toList.drop p).length = s.size - p := by simp
  rw [hl] at e
  have u : ∀ (x y : UInt8), x = y ↔ x.toNat = y.toNat := fun x y => UInt8.toNat_inj.symm
  simp only [u, Nat.add_zero] at e
  have n1 : (239 : UInt8).toNat = 239 := rfl
  have n2 : (191 : UInt8).toNat = 191 := rfl
  have n3 : (189 : UInt8).toNat = 189 := rfl
  rw [n1, n2, n3] at e
  rw [Bool.eq_iff_iff, e]
  simp only [Bool.not_eq_true', decide_eq_false_iff_not]
  rw [k]; simp

/-! ### The reference's way to read a character -/
def contN (n j b : Nat) : Prop := j < n ∧ 128 ≤ b ∧ b < 192
set_option maxRecDepth 100000 in
theorem dec2_ok (n b0 b1 b2 b3 : Nat) (h : 192 ≤ b0 ∧ b0 < 224) (c1 : contN n 1 b1) :
    Lib.decodeN n b0 b1 b2 b3 = if 64 * (b0 - 192) + b1 - 128 < 128 then (65533, 1) else (64 * (b0 - 192) + b1 - 128, 2) := by
  unfold contN at c1; unfold Lib.decodeN; repeat' split
  all_goals first | (exfalso; omega) | (apply Prod.ext <;> simp only <;> omega)
set_option maxRecDepth 100000 in
theorem dec2_no (n b0 b1 b2 b3 : Nat) (h : 192 ≤ b0 ∧ b0 < 224) (hb : b1 < 256) (c1 : ¬ contN n 1 b1) : Lib.decodeN n b0 b1 b2 b3 = (65533, 1) := by
  unfold contN at c1; unfold Lib.decodeN; repeat' split
  all_goals first | rfl | (exfalso; omega)
set_option maxRecDepth 100000 in
theorem dec3_ok (n b0 b1 b2 b3 : Nat) (h : 224 ≤ b0 ∧ b0 < 240) (c1 : contN n 1 b1) (c2 : contN n 2 b2) :
    Lib.decodeN n b0 b1 b2 b3 = if 64 * (64 * (b0 - 224) + b1 - 128) + b2 - 128 < 2048 ∨ (55296 ≤ 64 * (64 * (b0 - 224) + b1 - 128) + b2 - 128 ∧ 64 * (64 * (b0 - 224) + b1 - 128) + b2 - 128 ≤ 57343) then (65533, 1) else (64 * (64 * (b0 - 224) + b1 - 128) + b2 - 128, 3) := by
  unfold contN at c1 c2; unfold Lib.decodeN; repeat' split
  all_goals first | rfl | (exfalso; omega) | (apply Prod.ext <;> simp only <;> omega)
set_option maxRecDepth 100000 in
theorem dec3_no (n b0 b1 b2 b3 : Nat) (h : 224 ≤ b0 ∧ b0 < 240) (hb : b1 < 256) (hb2 : b2 < 256) (c1 : ¬ contN n 1 b1 ∨ ¬ contN n 2 b2) : Lib.decodeN n b0 b1 b2 b3 = (65533, 1) := by
  unfold contN at c1; unfold Lib.decodeN; repeat' split
  all_goals first | rfl | (exfalso; omega)
set_option maxRecDepth 100000 in
theorem dec4_ok (n b0 b1 b2 b3 : Nat) (h : 240 ≤ b0 ∧ b0 < 248) (c1 : contN n 1 b1) (c2 : contN n 2 b2) (c3 : contN n 3 b3) :
    Lib.decodeN n b0 b1 b2 b3 = if 64 * (64 * (64 * (b0 - 240) + b1 - 128) + b2 - 128) + b3 - 128 < 65536 ∨ 1114111 < 64 * (64 * (64 * (b0 - 240) + b1 - 128) + b2 - 128) + b3 - 128 then (65533, 1) else (64 * (64 * (64 * (b0 - 240) + b1 - 128) + b2 - 128) + b3 - 128, 4) := by
  unfold contN at c1 c2 c3; unfold Lib.decodeN; repeat' split
  all_goals first | rfl | (exfalso; omega) | (apply Prod.ext <;> simp only <;> omega)
set_option maxRecDepth 100000 in
theorem dec4_no (n b0 b1 b2 b3 : Nat) (h : 240 ≤ b0 ∧ b0 < 248) (hb : b1 < 256) (hb2 : b2 < 256) (hb3 : b3 < 256) (c1 : ¬ contN n 1 b1 ∨ ¬ contN n 2 b2 ∨ ¬ contN n 3 b3) : Lib.decodeN n b0 b1 b2 b3 = (65533, 1) := by
  unfold contN at c1; unfold Lib.decodeN; repeat' split
  all_goals first | rfl | (exfalso; omega)
set_option maxRecDepth 100000 in
theorem dec_other (n b0 b1 b2 b3 : Nat) (h : 128 ≤ b0 ∧ b0 < 192 ∨ 248 ≤ b0 ∧ b0 < 256) : Lib.decodeN n b0 b1 b2 b3 = (65533, 1) := by
  unfold Lib.decodeN; repeat' split
  all_goals first | rfl | (exfalso; omega)
end Go.Proofs.YthpjneobmmpbnaaGreatDoor
namespace Go.Proofs.YthpjneobmmpbnaaGreatDoor

/-- continuation byte at a place -/
def contAt (s : ByteArray) (j : Nat) : Prop := j < s.size ∧ 128 ≤ (s.get! j).toNat ∧ (s.get! j).toNat < 192
theorem contAt_N (s : ByteArray) (p k : Nat) : contAt s (p + k) ↔ contN (s.size - p) k (s.get! (p + k)).toNat := by
  unfold contAt contN; constructor <;> intro h <;> exact ⟨by omega, by omega, by omega⟩
/-- what is put together of the continuation bytes before the k-th -/
def accI (s : ByteArray) (p : Nat) (r0 : Int) : Nat → Int
  | 0 => r0
  | k + 1 => 64 * accI s p r0 k + (s.get! (p + (k + 1))).toNat - 128
theorem broken_char {s : ByteArray} {p : Nat} (h : Utf8.decode s p = (65533, 1)) : charR s p = -1 ∧ (charW s p : Int) = 1 := by
  unfold charR charW; rw [h]; exact ⟨rfl, rfl⟩
theorem good_char {s : ByteArray} {p : Nat} {c n : Nat} (h : Utf8.decode s p = (c, n)) (hn : n ≠ 1) : charR s p = c ∧ (charW s p : Int) = n := by
  unfold charR charW; rw [h]; exact ⟨by rw [if_neg (fun hh => hn hh.2)], rfl⟩


def ContsTo (s : ByteArray) (p k : Nat) : Prop := ∀ j, 1 ≤ j → j ≤ k → contAt s (p + j)
theorem ContsTo.zero (s : ByteArray) (p : Nat) : ContsTo s p 0 := fun j h1 h2 => by omega
theorem ContsTo.succ {s : ByteArray} {p k : Nat} (h : ContsTo s p k) (hc : contAt s (p + (k + 1))) : ContsTo s p (k + 1) := fun j h1 h2 => by
  by_cases e : j = k + 1
  · rw [e]; exact hc
  · exact h j h1 (by omega)
theorem accI_bd (s : ByteArray) (p : Nat) (r0 : Int) (h0 : 0 ≤ r0) (h1 : r0 < 32) : ∀ k, k ≤ 3 → ContsTo s p k → 0 ≤ accI s p r0 k ∧ accI s p r0 k < (if k = 0 then 32 else if k = 1 then 2048 else if k = 2 then 131072 else 8388608)
  | 0, _, _ => ⟨h0, by simpa [accI] using h1⟩
  | k + 1, hk, h => by
    have ih := accI_bd s p r0 h0 h1 k (by omega) (fun j a b => h j a (by omega))
    obtain ⟨_, c1, c2⟩ := h (k + 1) (by omega) (by omega)
    unfold accI
    match k, hk with
    | 0, _ => simp at ih c1 c2 ⊢; omega
    | 1, _ => simp at ih c1 c2 ⊢; omega
    | 2, _ => simp at ih c1 c2 ⊢; omega
theorem accI_bd' (s : ByteArray) (p : Nat) (r0 : Int) (h0 : 0 ≤ r0) (h1 : r0 < 32) (k : Nat) (hk : k ≤ 3) (h : ContsTo s p k) : 0 ≤ accI s p r0 k ∧ accI s p r0 k < 8388608 := by
  have bd := accI_bd s p r0 h0 h1 k hk h
  refine ⟨bd.1, ?_⟩
  have h2 := bd.2
  revert h2
  repeat' split
  all_goals omega

/-- Is what was put together no character's number? -/
def badX (least x : Int) : Prop := (x < least ∨ 1114111 < x) ∨ (55296 ≤ x ∧ x ≤ 57343)

set_option maxRecDepth 100000 in
theorem end_2 (s : ByteArray) (p : Nat) (hp : p < s.size) (hb : 192 ≤ (s[p].toNat : Int)) (hb2 : (s[p].toNat : Int) < 224) (hc : ContsTo s p 1) :
    (badX 128 (accI s p ((s[p].toNat : Int) - 192) 1) → charR s p = -1 ∧ (charW s p : Int) = 1) ∧ (¬ badX 128 (accI s p ((s[p].toNat : Int) - 192) 1) → charR s p = accI s p ((s[p].toNat : Int) - 192) 1 ∧ (charW s p : Int) = 2) := by
  have g := get_eq s p hp
  have d := dec2_ok (s.size - p) (s.get! p).toNat (s.get! (p + 1)).toNat (s.get! (p + 2)).toNat (s.get! (p + 3)).toNat (by rw [g]; omega) ((contAt_N s p 1).1 (hc 1 (by omega) (by omega)))
  rw [← Lib.decode_at, g] at d
  obtain ⟨_, x1, y1⟩ := hc 1 (by omega) (by omega)
  have e : accI s p ((s[p].toNat : Int) - 192) 1 = ((64 * (s[p].toNat - 192) + (s.get! (p + 1)).toNat - 128 : Nat) : Int) := by simp [accI]; omega
  rw [e]
  unfold badX
  constructor
  · intro h
    rw [if_pos (by omega)] at d
    exact broken_char d
  · intro h
    rw [if_neg (by omega)] at d
    exact good_char (n := 2) d (by decide)

theorem no_2 (s : ByteArray) (p : Nat) (hp : p < s.size) (hb : 192 ≤ (s[p].toNat : Int)) (hb2 : (s[p].toNat : Int) < 224) (k : Nat) (hk : k + 1 < 2) (hc : ¬ contAt s (p + (k + 1))) :
    charR s p = -1 ∧ (charW s p : Int) = 1 := by
  apply broken_char
  rw [contAt_N] at hc
  rw [Lib.decode_at]
  refine dec2_no _ _ _ _ _ (by rw [get_eq s p hp]; omega) (byteU _ _) ?_
  match k, hk with
  | 0, _ => exact hc


set_option maxRecDepth 100000 in
theorem end_3 (s : ByteArray) (p : Nat) (hp : p < s.size) (hb : 224 ≤ (s[p].toNat : Int)) (hb2 : (s[p].toNat : Int) < 240) (hc : ContsTo s p 2) :
    (badX 2048 (accI s p ((s[p].toNat : Int) - 224) 2) → charR s p = -1 ∧ (charW s p : Int) = 1) ∧ (¬ badX 2048 (accI s p ((s[p].toNat : Int) - 224) 2) → charR s p = accI s p ((s[p].toNat : Int) - 224) 2 ∧ (charW s p : Int) = 3) := by
  have g := get_eq s p hp
  have d := dec3_ok (s.size - p) (s.get! p).toNat (s.get! (p + 1)).toNat (s.get! (p + 2)).toNat (s.get! (p + 3)).toNat (by rw [g]; omega) ((contAt_N s p 1).1 (hc 1 (by omega) (by omega))) ((contAt_N s p 2).1 (hc 2 (by omega) (by omega)))
  rw [← Lib.decode_at, g] at d
  obtain ⟨_, x1, y1⟩ := hc 1 (by omega) (by omega)
  obtain ⟨_, x2, y2⟩ := hc 2 (by omega) (by omega)
  have e : accI s p ((s[p].toNat : Int) - 224) 2 = ((64 * (64 * (s[p].toNat - 224) + (s.get! (p + 1)).toNat - 128) + (s.get! (p + 2)).toNat - 128 : Nat) : Int) := by simp [accI]; omega
  rw [e]
  unfold badX
  constructor
  · intro h
    rw [if_pos (by omega)] at d
    exact broken_char d
  · intro h
    rw [if_neg (by omega)] at d
    exact good_char (n := 3) d (by decide)

theorem no_3 (s : ByteArray) (p : Nat) (hp : p < s.size) (hb : 224 ≤ (s[p].toNat : Int)) (hb2 : (s[p].toNat : Int) < 240) (k : Nat) (hk : k + 1 < 3) (hc : ¬ contAt s (p + (k + 1))) :
    charR s p = -1 ∧ (charW s p : Int) = 1 := by
  apply broken_char
  rw [contAt_N] at hc
  rw [Lib.decode_at]
  refine dec3_no _ _ _ _ _ (by rw [get_eq s p hp]; omega) (byteU _ _) (byteU _ _) ?_
  match k, hk with
  | 0, _ => exact .inl hc
  | 1, _ => exact .inr hc


set_option maxRecDepth 100000 in
theorem end_4 (s : ByteArray) (p : Nat) (hp : p < s.size) (hb : 240 ≤ (s[p].toNat : Int)) (hb2 : (s[p].toNat : Int) < 248) (hc : ContsTo s p 3) :
    (badX 65536 (accI s p ((s[p].toNat : Int) - 240) 3) → charR s p = -1 ∧ (charW s p : Int) = 1) ∧ (¬ badX 65536 (accI s p ((s[p].toNat : Int) - 240) 3) → charR s p = accI s p ((s[p].toNat : Int) - 240) 3 ∧ (charW s p : Int) = 4) := by
  have g := get_eq s p hp
  have d := dec4_ok (s.size - p) (s.get! p).toNat (s.get! (p + 1)).toNat (s.get! (p + 2)).toNat (s.get! (p + 3)).toNat (by rw [g]; omega) ((contAt_N s p 1).1 (hc 1 (by omega) (by omega))) ((contAt_N s p 2).1 (hc 2 (by omega) (by omega))) ((contAt_N s p 3).1 (hc 3 (by omega) (by omega)))
  rw [← Lib.decode_at, g] at d
  obtain ⟨_, x1, y1⟩ := hc 1 (by omega) (by omega)
  obtain ⟨_, x2, y2⟩ := hc 2 (by omega) (by omega)
  obtain ⟨_, x3, y3⟩ := hc 3 (by omega) (by omega)
  have e : accI s p ((s[p].toNat : Int) - 240) 3 = ((64 * (64 * (64 * (s[p].toNat - 240) + (s.get! (p + 1)).toNat - 128) + (s.get! (p + 2)).toNat - 128) + (s.get! (p + 3)).toNat - 128 : Nat) : Int) := by simp [accI]; omega
  rw [e]
  unfold badX
  constructor
  · intro h
    rw [if_pos (by omega)] at d
    exact broken_char d
  · intro h
    rw [if_neg (by omega)] at d
    exact good_char (n := 4) d (by decide)

theorem no_4 (s : ByteArray) (p : Nat) (hp : p < s.size) (hb : 240 ≤ (s[p].toNat : Int)) (hb2 : (s[p].toNat : Int) < 248) (k : Nat) (hk : k + 1 < 4) (hc : ¬ contAt s (p + (k + 1))) :
    charR s p = -1 ∧ (charW s p : Int) = 1 := by
  apply broken_char
  rw [contAt_N] at hc
  rw [Lib.decode_at]
  refine dec4_no _ _ _ _ _ (by rw [get_eq s p hp]; omega) (byteU _ _) (byteU _ _) (byteU _ _) ?_
  match k, hk with
  | 0, _ => exact .inl hc
  | 1, _ => exact .inr (.inl hc)
  | 2, _ => exact .inr (.inr hc)

end Go.Proofs.YthpjneobmmpbnaaGreatDoor

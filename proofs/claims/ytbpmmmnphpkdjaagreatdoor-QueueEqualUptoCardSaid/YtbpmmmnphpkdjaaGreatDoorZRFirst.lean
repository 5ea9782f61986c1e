/- What runes.Kind and arborref01.Kind compute: one and the same table, as a plain function on integers. No condition but the parameter's own range. Plain facts on characters of a text: what stands at a place (the model's own decode), its kind; the reference's way to read a character, byte by byte, gives the same. No program in sight; no condition. Plain facts on the reference's way to read a character: what it puts together of the bytes is what stands there. No program in sight; no condition. The walks of runes.of, arborref01.Of and arborref01.Char: each computes the plain function of XRPlain, at every place inside the text. The walks of runes.First, runes.Units : each computes one plain function of the text, for every text of at most 2^47 bytes (the form's own reach). -/
import Derived.Test.YtbpmmmnphpkdjaaGreatDoorRows
import Derived.WalkKit
import Derived.ProofKit
import Derived.IntWalk
import Derived.WalkLawsBesides
import Derived.WalkSpells
import Derived.Lib.DecodeN
import Derived.Lib.TrimU
import Derived.Lib.QuoteLoop
import Derived.Lib.IndexBytes
import Derived.Test.YtbpmmmnphpkdjaaGreatDoorShelf
import Derived.LoopTactic
import Derived.Lib.Hide
import Derived.BigCall
import Derived.Lib.OthersKept
namespace Go.Proofs.YtbpmmmnphpkdjaaGreatDoor
open Go.RowKit

/-- The kinds of the document's table. -/
def kindI (r : Int) : Int :=
  if r < 0 ∨ 1114111 < r then 0 else if r = 0 then 2 else if r ≤ 31 ∨ (127 ≤ r ∧ r ≤ 159) then 3 else if 55296 ≤ r ∧ r ≤ 57343 then 4
  else if 57344 ≤ r ∧ r ≤ 63743 then 5 else if 65520 ≤ r ∧ r ≤ 65535 then 6 else if 65536 ≤ r then 7 else 1

theorem kindI_range (r : Int) : 0 ≤ kindI r ∧ kindI r ≤ 7 := by
  unfold kindI; repeat' split
  all_goals omega

theorem ret_i64 {a b : Int} (h : a = b) : Ending.returned (.int .i64 a) = .returned (.int .i64 b) := by rw [h]

set_option maxHeartbeats 400000 in
theorem kind_any (r : Int) (w : World) :
    Calls Tryz.prog 280 #[.int .i32 r] w fun e w' => e = .returned (.int .i64 (kindI r)) ∧ w = w' := by
  go_enter Tryz.func280, Tryz.ntmps280
  go_wp2
  all_goals
    go_ret
    refine ⟨ret_i64 ?_, rfl⟩
    try simp only [beq_iff_eq, beq_eq_false_iff_ne, ne_eq] at *
    unfold kindI
    (repeat' split) <;> omega

set_option maxHeartbeats 400000 in
theorem refKind_any (r : Int) (w : World) :
    Calls Tryz.prog 281 #[.int .i64 r] w fun e w' => e = .returned (.int .i64 (kindI r)) ∧ w = w' := by
  go_enter Tryz.func281, Tryz.ntmps281
  go_wp2
  all_goals
    go_ret
    refine ⟨ret_i64 ?_, rfl⟩
    try simp only [beq_iff_eq, beq_eq_false_iff_ne, ne_eq] at *
    unfold kindI
    (repeat' split) <;> omega
end Go.Proofs.YtbpmmmnphpkdjaaGreatDoor
namespace Go.Proofs.YtbpmmmnphpkdjaaGreatDoor

/-- The rune that the reference tells at a place: -1 of a broken one. -/
def charR (s : ByteArray) (p : Nat) : Int := if (Utf8.decode s p).1 = 65533 ∧ (Utf8.decode s p).2 = 1 then -1 else ((Utf8.decode s p).1 : Int)
/-- How many bytes the character at a place has. -/
def charW (s : ByteArray) (p : Nat) : Nat := (Utf8.decode s p).2
/-- The kind of the character at a place. -/
def charK (s : ByteArray) (p : Nat) : Int := if (Utf8.decode s p).1 = 65533 ∧ (Utf8.decode s p).2 = 1 then 8 else kindI ((Utf8.decode s p).1 : Int)

theorem charW_pos (s : ByteArray) (p : Nat) : 1 ≤ charW s p := Lib.width_pos s p
theorem decodeN_w4 (n b0 b1 b2 b3 : Nat) : (Lib.decodeN n b0 b1 b2 b3).2 ≤ 4 := by
  unfold Lib.decodeN; repeat' split
  all_goals simp
theorem charW_le4 (s : ByteArray) (p : Nat) : charW s p ≤ 4 := by unfold charW; rw [Lib.decode_at]; exact decodeN_w4 _ _ _ _ _
theorem charW_le (s : ByteArray) (p : Nat) (h : p < s.size) : p + charW s p ≤ s.size := by
  unfold charW; rw [Lib.decode_at]; have := Lib.decodeN_width_le (s.size - p) (s.get! p).toNat (s.get! (p + 1)).toNat (s.get! (p + 2)).toNat (s.get! (p + 3)).toNat (by omega); omega
theorem decode_le (s : ByteArray) (p : Nat) : (Utf8.decode s p).1 ≤ 1114111 := Lib.rune_le s p
theorem charR_range (s : ByteArray) (p : Nat) : -1 ≤ charR s p ∧ charR s p ≤ 1114111 := by
  have := decode_le s p; unfold charR; split <;> omega
theorem charK_range (s : ByteArray) (p : Nat) : 1 ≤ charK s p ∧ charK s p ≤ 8 := by
  have := decode_le s p; have := kindI_range ((Utf8.decode s p).1 : Int); unfold charK; split
  · omega
  · refine ⟨?_, by omega⟩; unfold kindI; repeat' split
    all_goals omega
/-- What 'Of' makes of the reference's rune. -/
def ofI (r : Int) : Int := if r < 0 then 8 else kindI r
theorem ofI_charR (s : ByteArray) (p : Nat) : ofI (charR s p) = charK s p := by
  unfold ofI charR charK; split
  · rfl
  · rw [if_neg (by omega)]

theorem get_eq (s : ByteArray) (i : Nat) (h : i < s.size) : s.get! i = s[i] := by
  show s.data[i]! = s.data[i]
  rw [getElem!_pos s.data i h]
theorem byteU (s : ByteArray) (i : Nat) : (s.get! i).toNat < 256 := UInt8.toNat_lt _

/-- U+FFFD stands rightly at a place just where its three bytes stand there. -/
theorem fffd_iff (n b0 b1 b2 b3 : Nat) (h0 : b0 < 256) (h : (Lib.decodeN n b0 b1 b2 b3).1 = 65533) :
    ((Lib.decodeN n b0 b1 b2 b3).2 = 1) ↔ ¬ (3 ≤ n ∧ b0 = 239 ∧ b1 = 191 ∧ b2 = 189) := by
  revert h; unfold Lib.decodeN; repeat' split
  all_goals (simp; try omega)

theorem hasPrefix_three (l : List UInt8) (a b c : UInt8) : Lib.hasPrefix l [a, b, c] = true ↔ (3 ≤ l.length ∧ l.getD 0 0 = a ∧ l.getD 1 0 = b ∧ l.getD 2 0 = c) := by
  match l with
  | [] => simp [Lib.hasPrefix]
  | [x] => simp [Lib.hasPrefix]
  | [x, y] => simp [Lib.hasPrefix]
  | x :: y :: z :: t =>
    simp [Lib.hasPrefix]
    constructor
    · rintro ⟨rfl, rfl, rfl⟩; exact ⟨rfl, rfl, rfl⟩
    · rintro ⟨rfl, rfl, rfl⟩; exact ⟨rfl, rfl, rfl⟩

theorem getD_drop (s : ByteArray) (p k : Nat) : (s.data.toList.drop p).getD k 0 = s.get! (p + k) := by
  rw [List.getD_eq_getElem?_getD, List.getElem?_drop]
  show _ = s.data[p + k]!
  by_cases h : p + k < s.data.size
  · rw [getElem!_pos s.data _ h]; simp [Array.getElem?_eq_getElem h]
  · rw [getElem!_neg s.data _ h]; simp [Array.getElem?_eq_none (Nat.not_lt.1 h)]; rfl

/-- What 'of' asks of the text behind the place: whether U+FFFD's bytes stand there. -/
theorem prefix_fffd (s : ByteArray) (p : Nat) (h : (Utf8.decode s p).1 = 65533) :
    Lib.hasPrefix (s.extract p s.size).data.toList [239, 191, 189] = !decide ((Utf8.decode s p).2 = 1) := by
  rw [Lib.extract_to_end]
  have e := hasPrefix_three (s.data.toList.drop p) 239 191 189
  rw [getD_drop, getD_drop, getD_drop] at e
  have k := fffd_iff (s.size - p) (s.get! p).toNat (s.get! (p + 1)).toNat (s.get! (p + 2)).toNat (s.get! (p + 3)).toNat (byteU _ _) (by rw [← Lib.decode_at]; exact h)
  rw [← Lib.decode_at] at k
  have hl : (s.data.toList.drop p).length = s.size - p := by simp
  rw [hl] at e
  have u : ∀ (x y : UInt8), x = y ↔ x.toNat = y.toNat := fun x y => UInt8.toNat_inj.symm
  simp only [u, Nat.add_zero] at e
  have n1 : (239 : UInt8).toNat = 239 := rfl
  have n2 : (191 : UInt8).toNat = 191 := rfl
  have n3 : (189 : UInt8).toNat = 189 := rfl
  rw [n1, n2, n3] at e
  rw [Bool.eq_iff_iff, e]
  simp only [Bool.not_eq_true', decide_eq_false_iff_not]
  rw [k]; simp

/-! ### The reference's way to read a character -/
def contN (n j b : Nat) : Prop := j < n ∧ 128 ≤ b ∧ b < 192
set_option maxRecDepth 100000 in
theorem dec2_ok (n b0 b1 b2 b3 : Nat) (h : 192 ≤ b0 ∧ b0 < 224) (c1 : contN n 1 b1) :
    Lib.decodeN n b0 b1 b2 b3 = if 64 * (b0 - 192) + b1 - 128 < 128 then (65533, 1) else (64 * (b0 - 192) + b1 - 128, 2) := by
  unfold contN at c1; unfold Lib.decodeN; repeat' split
  all_goals first | (exfalso; omega) | (apply Prod.ext <;> simp only <;> omega)
set_option maxRecDepth 100000 in
theorem dec2_no (n b0 b1 b2 b3 : Nat) (h : 192 ≤ b0 ∧ b0 < 224) (hb : b1 < 256) (c1 : ¬ contN n 1 b1) : Lib.decodeN n b0 b1 b2 b3 = (65533, 1) := by
  unfold contN at c1; unfold Lib.decodeN; repeat' split
  all_goals first | rfl | (exfalso; omega)
set_option maxRecDepth 100000 in
theorem dec3_ok (n b0 b1 b2 b3 : Nat) (h : 224 ≤ b0 ∧ b0 < 240) (c1 : contN n 1 b1) (c2 : contN n 2 b2) :
    Lib.decodeN n b0 b1 b2 b3 = if 64 * (64 * (b0 - 224) + b1 - 128) + b2 - 128 < 2048 ∨ (55296 ≤ 64 * (64 * (b0 - 224) + b1 - 128) + b2 - 128 ∧ 64 * (64 * (b0 - 224) + b1 - 128) + b2 - 128 ≤ 57343) then (65533, 1) else (64 * (64 * (b0 - 224) + b1 - 128) + b2 - 128, 3) := by
  unfold contN at c1 c2; unfold Lib.decodeN; repeat' split
  all_goals first | rfl | (exfalso; omega) | (apply Prod.ext <;> simp only <;> omega)
set_option maxRecDepth 100000 in
theorem dec3_no (n b0 b1 b2 b3 : Nat) (h : 224 ≤ b0 ∧ b0 < 240) (hb : b1 < 256) (hb2 : b2 < 256) (c1 : ¬ contN n 1 b1 ∨ ¬ contN n 2 b2) : Lib.decodeN n b0 b1 b2 b3 = (65533, 1) := by
  unfold contN at c1; unfold Lib.decodeN; repeat' split
  all_goals first | rfl | (exfalso; omega)
set_option maxRecDepth 100000 in
theorem dec4_ok (n b0 b1 b2 b3 : Nat) (h : 240 ≤ b0 ∧ b0 < 248) (c1 : contN n 1 b1) (c2 : contN n 2 b2) (c3 : contN n 3 b3) :
    Lib.decodeN n b0 b1 b2 b3 = if 64 * (64 * (64 * (b0 - 240) + b1 - 128) + b2 - 128) + b3 - 128 < 65536 ∨ 1114111 < 64 * (64 * (64 * (b0 - 240) + b1 - 128) + b2 - 128) + b3 - 128 then (65533, 1) else (64 * (64 * (64 * (b0 - 240) + b1 - 128) + b2 - 128) + b3 - 128, 4) := by
  unfold contN at c1 c2 c3; unfold Lib.decodeN; repeat' split
  all_goals first | rfl | (exfalso; omega) | (apply Prod.ext <;> simp only <;> omega)
set_option maxRecDepth 100000 in
theorem dec4_no (n b0 b1 b2 b3 : Nat) (h : 240 ≤ b0 ∧ b0 < 248) (hb : b1 < 256) (hb2 : b2 < 256) (hb3 : b3 < 256) (c1 : ¬ contN n 1 b1 ∨ ¬ contN n 2 b2 ∨ ¬ contN n 3 b3) : Lib.decodeN n b0 b1 b2 b3 = (65533, 1) := by
  unfold contN at c1; unfold Lib.decodeN; repeat' split
  all_goals first | rfl | (exfalso; omega)
set_option maxRecDepth 100000 in
theorem dec_other (n b0 b1 b2 b3 : Nat) (h : 128 ≤ b0 ∧ b0 < 192 ∨ 248 ≤ b0 ∧ b0 < 256) : Lib.decodeN n b0 b1 b2 b3 = (65533, 1) := by
  unfold Lib.decodeN; repeat' split
  all_goals first | rfl | (exfalso; omega)
end Go.Proofs.YtbpmmmnphpkdjaaGreatDoor
namespace Go.Proofs.YtbpmmmnphpkdjaaGreatDoor

/-- continuation byte at a place -/
def contAt (s : ByteArray) (j : Nat) : Prop := j < s.size ∧ 128 ≤ (s.get! j).toNat ∧ (s.get! j).toNat < 192
theorem contAt_N (s : ByteArray) (p k : Nat) : contAt s (p + k) ↔ contN (s.size - p) k (s.get! (p + k)).toNat := by
  unfold contAt contN; constructor <;> intro h <;> exact ⟨by omega, by omega, by omega⟩
/-- what is put together of the continuation bytes before the k-th -/
def accI (s : ByteArray) (p : Nat) (r0 : Int) : Nat → Int
  | 0 => r0
  | k + 1 => 64 * accI s p r0 k + (s.get! (p + (k + 1))).toNat - 128
theorem broken_char {s : ByteArray} {p : Nat} (h : Utf8.decode s p = (65533, 1)) : charR s p = -1 ∧ (charW s p : Int) = 1 := by
  unfold charR charW; rw [h]; exact ⟨rfl, rfl⟩
theorem good_char {s : ByteArray} {p : Nat} {c n : Nat} (h : Utf8.decode s p = (c, n)) (hn : n ≠ 1) : charR s p = c ∧ (charW s p : Int) = n := by
  unfold charR charW; rw [h]; exact ⟨by rw [if_neg (fun hh => hn hh.2)], rfl⟩


def ContsTo (s : ByteArray) (p k : Nat) : Prop := ∀ j, 1 ≤ j → j ≤ k → contAt s (p + j)
theorem ContsTo.zero (s : ByteArray) (p : Nat) : ContsTo s p 0 := fun j h1 h2 => by omega
theorem ContsTo.succ {s : ByteArray} {p k : Nat} (h : ContsTo s p k) (hc : contAt s (p + (k + 1))) : ContsTo s p (k + 1) := fun j h1 h2 => by
  by_cases e : j = k + 1
  · rw [e]; exact hc
  · exact h j h1 (by omega)
theorem accI_bd (s : ByteArray) (p : Nat) (r0 : Int) (h0 : 0 ≤ r0) (h1 : r0 < 32) : ∀ k, k ≤ 3 → ContsTo s p k → 0 ≤ accI s p r0 k ∧ accI s p r0 k < (if k = 0 then 32 else if k = 1 then 2048 else if k = 2 then 131072 else 8388608)
  | 0, _, _ => ⟨h0, by simpa [accI] using h1⟩
  | k + 1, hk, h => by
    have ih := accI_bd s p r0 h0 h1 k (by omega) (fun j a b => h j a (by omega))
    obtain ⟨_, c1, c2⟩ := h (k + 1) (by omega) (by omega)
    unfold accI
    match k, hk with
    | 0, _ => simp at ih c1 c2 ⊢; omega
    | 1, _ => simp at ih c1 c2 ⊢; omega
    | 2, _ => simp at ih c1 c2 ⊢; omega
theorem accI_bd' (s : ByteArray) (p : Nat) (r0 : Int) (h0 : 0 ≤ r0) (h1 : r0 < 32) (k : Nat) (hk : k ≤ 3) (h : ContsTo s p k) : 0 ≤ accI s p r0 k ∧ accI s p r0 k < 8388608 := by
  have bd := accI_bd s p r0 h0 h1 k hk h
  refine ⟨bd.1, ?_⟩
  have h2 := bd.2
  revert h2
  repeat' split
  all_goals omega

/-- Is what was put together no character's number? -/
def badX (least x : Int) : Prop := (x < least ∨ 1114111 < x) ∨ (55296 ≤ x ∧ x ≤ 57343)

set_option maxRecDepth 100000 in
theorem end_2 (s : ByteArray) (p : Nat) (hp : p < s.size) (hb : 192 ≤ (s[p].toNat : Int)) (hb2 : (s[p].toNat : Int) < 224) (hc : ContsTo s p 1) :
    (badX 128 (accI s p ((s[p].toNat : Int) - 192) 1) → charR s p = -1 ∧ (charW s p : Int) = 1) ∧ (¬ badX 128 (accI s p ((s[p].toNat : Int) - 192) 1) → charR s p = accI s p ((s[p].toNat : Int) - 192) 1 ∧ (charW s p : Int) = 2) := by
  have g := get_eq s p hp
  have d := dec2_ok (s.size - p) (s.get! p).toNat (s.get! (p + 1)).toNat (s.get! (p + 2)).toNat (s.get! (p + 3)).toNat (by rw [g]; omega) ((contAt_N s p 1).1 (hc 1 (by omega) (by omega)))
  rw [← Lib.decode_at, g] at d
  obtain ⟨_, x1, y1⟩ := hc 1 (by omega) (by omega)
  have e : accI s p ((s[p].toNat : Int) - 192) 1 = ((64 * (s[p].toNat - 192) + (s.get! (p + 1)).toNat - 128 : Nat) : Int) := by simp [accI]; omega
  rw [e]
  unfold badX
  constructor
  · intro h
    rw [if_pos (by omega)] at d
    exact broken_char d
  · intro h
    rw [if_neg (by omega)] at d
    exact good_char (n := 2) d (by decide)

theorem no_2 (s : ByteArray) (p : Nat) (hp : p < s.size) (hb : 192 ≤ (s[p].toNat : Int)) (hb2 : (s[p].toNat : Int) < 224) (k : Nat) (hk : k + 1 < 2) (hc : ¬ contAt s (p + (k + 1))) :
    charR s p = -1 ∧ (charW s p : Int) = 1 := by
  apply broken_char
  rw [contAt_N] at hc
  rw [Lib.decode_at]
  refine dec2_no _ _ _ _ _ (by rw [get_eq s p hp]; omega) (byteU _ _) ?_
  match k, hk with
  | 0, _ => exact hc


set_option maxRecDepth 100000 in
theorem end_3 (s : ByteArray) (p : Nat) (hp : p < s.size) (hb : 224 ≤ (s[p].toNat : Int)) (hb2 : (s[p].toNat : Int) < 240) (hc : ContsTo s p 2) :
    (badX 2048 (accI s p ((s[p].toNat : Int) - 224) 2) → charR s p = -1 ∧ (charW s p : Int) = 1) ∧ (¬ badX 2048 (accI s p ((s[p].toNat : Int) - 224) 2) → charR s p = accI s p ((s[p].toNat : Int) - 224) 2 ∧ (charW s p : Int) = 3) := by
  have g := get_eq s p hp
  have d := dec3_ok (s.size - p) (s.get! p).toNat (s.get! (p + 1)).toNat (s.get! (p + 2)).toNat (s.get! (p + 3)).toNat (by rw [g]; omega) ((contAt_N s p 1).1 (hc 1 (by omega) (by omega))) ((contAt_N s p 2).1 (hc 2 (by omega) (by omega)))
  rw [← Lib.decode_at, g] at d
  obtain ⟨_, x1, y1⟩ := hc 1 (by omega) (by omega)
  obtain ⟨_, x2, y2⟩ := hc 2 (by omega) (by omega)
  have e : accI s p ((s[p].toNat : Int) - 224) 2 = ((64 * (64 * (s[p].toNat - 224) + (s.get! (p + 1)).toNat - 128) + (s.get! (p + 2)).toNat - 128 : Nat) : Int) := by simp [accI]; omega
  rw [e]
  unfold badX
  constructor
  · intro h
    rw [if_pos (by omega)] at d
    exact broken_char d
  · intro h
    rw [if_neg (by omega)] at d
    exact good_char (n := 3) d (by decide)

theorem no_3 (s : ByteArray) (p : Nat) (hp : p < s.size) (hb : 224 ≤ (s[p].toNat : Int)) (hb2 : (s[p].toNat : Int) < 240) (k : Nat) (hk : k + 1 < 3) (hc : ¬ contAt s (p + (k + 1))) :
    charR s p = -1 ∧ (charW s p : Int) = 1 := by
  apply broken_char
  rw [contAt_N] at hc
  rw [Lib.decode_at]
  refine dec3_no _ _ _ _ _ (by rw [get_eq s p hp]; omega) (byteU _ _) (byteU _ _) ?_
  match k, hk with
  | 0, _ => exact .inl hc
  | 1, _ => exact .inr hc


set_option maxRecDepth 100000 in
theorem end_4 (s : ByteArray) (p : Nat) (hp : p < s.size) (hb : 240 ≤ (s[p].toNat : Int)) (hb2 : (s[p].toNat : Int) < 248) (hc : ContsTo s p 3) :
    (badX 65536 (accI s p ((s[p].toNat : Int) - 240) 3) → charR s p = -1 ∧ (charW s p : Int) = 1) ∧ (¬ badX 65536 (accI s p ((s[p].toNat : Int) - 240) 3) → charR s p = accI s p ((s[p].toNat : Int) - 240) 3 ∧ (charW s p : Int) = 4) := by
  have g := get_eq s p hp
  have d := dec4_ok (s.size - p) (s.get! p).toNat (s.get! (p + 1)).toNat (s.get! (p + 2)).toNat (s.get! (p + 3)).toNat (by rw [g]; omega) ((contAt_N s p 1).1 (hc 1 (by omega) (by omega))) ((contAt_N s p 2).1 (hc 2 (by omega) (by omega))) ((contAt_N s p 3).1 (hc 3 (by omega) (by omega)))
  rw [← Lib.decode_at, g] at d
  obtain ⟨_, x1, y1⟩ := hc 1 (by omega) (by omega)
  obtain ⟨_, x2, y2⟩ := hc 2 (by omega) (by omega)
  obtain ⟨_, x3, y3⟩ := hc 3 (by omega) (by omega)
  have e : accI s p ((s[p].toNat : Int) - 240) 3 = ((64 * (64 * (64 * (s[p].toNat - 240) + (s.get! (p + 1)).toNat - 128) + (s.get! (p + 2)).toNat - 128) + (s.get! (p + 3)).toNat - 128 : Nat) : Int) := by simp [accI]; omega
  rw [e]
  unfold badX
  constructor
  · intro h
    rw [if_pos (by omega)] at d
    exact broken_char d
  · intro h
    rw [if_neg (by omega)] at d
    exact good_char (n := 4) d (by decide)

theorem no_4 (s : ByteArray) (p : Nat) (hp : p < s.size) (hb : 240 ≤ (s[p].toNat : Int)) (hb2 : (s[p].toNat : Int) < 248) (k : Nat) (hk : k + 1 < 4) (hc : ¬ contAt s (p + (k + 1))) :
    charR s p = -1 ∧ (charW s p : Int) = 1 := by
  apply broken_char
  rw [contAt_N] at hc
  rw [Lib.decode_at]
  refine dec4_no _ _ _ _ _ (by rw [get_eq s p hp]; omega) (byteU _ _) (byteU _ _) (byteU _ _) ?_
  match k, hk with
  | 0, _ => exact .inl hc
  | 1, _ => exact .inr (.inl hc)
  | 2, _ => exact .inr (.inr hc)

end Go.Proofs.YtbpmmmnphpkdjaaGreatDoor
namespace Go.Proofs.YtbpmmmnphpkdjaaGreatDoor
open Go.RowKit

set_option maxHeartbeats 400000 in
theorem of_any (s : ByteArray) (p : Nat) (hp : p < s.size) (_hs : s.size ≤ 140737488355328) (w : World) :
    Calls Tryz.prog 264 #[.string s, .int .i64 p, .int .i32 (Utf8.decode s p).1] w fun e w' => e = .returned (.int .i64 (charK s p)) ∧ w = w' := by
  by_cases h : (Utf8.decode s p).1 = 65533
  · have hpre := prefix_fffd s p h
    by_cases h1 : (Utf8.decode s p).2 = 1
    · have hk : charK s p = 8 := by unfold charK; rw [if_pos ⟨h, h1⟩]
      have H := Lib.hid hk; clear hk
      have H2 : Lib.hasPrefix (s.extract p s.size).data.toList [239, 191, 189] = false := by rw [hpre, h1]; rfl
      clear hpre h1
      generalize (Utf8.decode s p).1 = d at *
      subst h
      go_enter Tryz.func264, Tryz.ntmps264
      go_wp2_with (go_at_call 279; refine (Tryz.strings_HasPrefix _ _ _).mono ?_; rintro e w' ⟨rfl, rfl⟩; simp only [H2])
      go_ret
      exact ⟨ret_i64 (by rw [H.out]), rfl⟩
    · have hk : charK s p = kindI 65533 := by unfold charK; rw [if_neg (fun hh => h1 hh.2), h]; rfl
      have H := Lib.hid hk; clear hk
      have H2 : Lib.hasPrefix (s.extract p s.size).data.toList [239, 191, 189] = true := by rw [hpre]; simp [h1]
      clear hpre h1
      generalize (Utf8.decode s p).1 = d at *
      subst h
      go_enter Tryz.func264, Tryz.ntmps264
      go_wp2_with (first | (go_at_call 279; refine (Tryz.strings_HasPrefix _ _ _).mono ?_; rintro e w' ⟨rfl, rfl⟩; simp only [H2]) | (go_at_call 280; refine (kind_any _ _).mono ?_; rintro e w' ⟨rfl, rfl⟩))
      go_ret
      exact ⟨ret_i64 (by rw [H.out]), rfl⟩
  · have hk : charK s p = kindI ((Utf8.decode s p).1 : Int) := by unfold charK; rw [if_neg (fun hh => h hh.1)]
    have H := Lib.hid hk; clear hk
    generalize (Utf8.decode s p).1 = d at *
    have hb : (((d : Nat) : Int) == 65533) = false := by simp; omega
    go_enter Tryz.func264, Tryz.ntmps264
    go_wp2_with (go_at_call 280; refine (kind_any _ _).mono ?_; rintro e w' ⟨rfl, rfl⟩)
    go_ret
    exact ⟨ret_i64 (by rw [H.out]), rfl⟩

theorem refOf_any (r : Int) (w : World) :
    Calls Tryz.prog 269 #[.int .i64 r] w fun e w' => e = .returned (.int .i64 (ofI r)) ∧ w = w' := by
  by_cases h : r < 0
  · go_enter Tryz.func269, Tryz.ntmps269
    go_wp2
    go_ret
    exact ⟨ret_i64 (by unfold ofI; rw [if_pos h]), rfl⟩
  · go_enter Tryz.func269, Tryz.ntmps269
    go_wp2_with (go_at_call 281; refine (refKind_any _ _).mono ?_; rintro e w' ⟨rfl, rfl⟩)
    go_ret
    exact ⟨ret_i64 (by unfold ofI; rw [if_neg (by omega)]), rfl⟩

/-- what Char answers -/
def Chr (s : ByteArray) (p : Nat) (w : World) (e : Ending) (w' : World) : Prop := e = .returned (.tuple #[.int .i64 (charR s p), .int .i64 (charW s p)]) ∧ w = w'
theorem Chr.mk {s : ByteArray} {p : Nat} {w : World} {a b : Int} (h : charR s p = a ∧ (charW s p : Int) = b) : Chr s p w (.returned (.tuple #[.int .i64 a, .int .i64 b])) w := ⟨by rw [h.1, h.2], rfl⟩
set_option maxRecDepth 100000 in
set_option maxHeartbeats 1000000 in
theorem char_one (s : ByteArray) (p : Nat) (hp : p < s.size) (_hs : s.size ≤ 140737488355328) (w : World) (hb : (s[p].toNat : Int) < 128) :
    Calls Tryz.prog 268 #[.string s, .int .i64 p] w (Chr s p w) := by
  go_enter Tryz.func268, Tryz.ntmps268
  go_wp2
  go_ret2
  refine Chr.mk ?_
  have e : Utf8.decode s p = ((s.get! p).toNat, 1) := by
    rw [Lib.decode_at]; unfold Lib.decodeN; rw [if_pos (by rw [get_eq s p hp]; omega)]
  unfold charR charW; rw [e, get_eq s p hp]; exact ⟨by rw [if_neg (by intro h; simp at h; omega)], rfl⟩

set_option maxRecDepth 100000 in
set_option maxHeartbeats 1000000 in
theorem char_other (s : ByteArray) (p : Nat) (hp : p < s.size) (_hs : s.size ≤ 140737488355328) (w : World) (hb : (128 ≤ (s[p].toNat : Int) ∧ (s[p].toNat : Int) < 192) ∨ 248 ≤ (s[p].toNat : Int)) :
    Calls Tryz.prog 268 #[.string s, .int .i64 p] w (Chr s p w) := by
  have hd : Utf8.decode s p = (65533, 1) := by
    rw [Lib.decode_at]; exact dec_other _ _ _ _ _ (by rw [get_eq s p hp]; have := UInt8.toNat_lt s[p]; omega)
  have H := Lib.hid (broken_char hd); clear hd
  have hlt := UInt8.toNat_lt s[p]
  rcases hb with ⟨h1, h2⟩ | h1
  · go_enter Tryz.func268, Tryz.ntmps268
    go_wp2
    go_ret2
    exact Chr.mk H.out
  · go_enter Tryz.func268, Tryz.ntmps268
    go_wp2
    go_ret2
    exact Chr.mk H.out

set_option maxRecDepth 100000 in
set_option maxHeartbeats 2000000 in
theorem char_2 (s : ByteArray) (p : Nat) (hp : p < s.size) (_hs : s.size ≤ 140737488355328) (w : World) (hb : 192 ≤ (s[p].toNat : Int)) (hb2 : (s[p].toNat : Int) < 224) :
    Calls Tryz.prog 268 #[.string s, .int .i64 p] w (Chr s p w) := by
  have HE := Lib.hid (end_2 s p hp hb hb2)
  have HN := Lib.hid (no_2 s p hp hb hb2)
  go_enter Tryz.func268, Tryz.ntmps268
  go_wp2
  go_loop [8, 10] (fun r i => ∃ k : Nat, k < 2 ∧ i = .int .i64 ↑(k + 1) ∧ r = .int .i64 (accI s p ((s[p].toNat : Int) - 192) k) ∧ ContsTo s p k) (fun _ i => 3 - (intOf i).toNat)
  case atStart => exact ⟨0, by omega, by go_num, by simp [accI], ContsTo.zero s p⟩
  case round =>
    obtain ⟨k, hk, rfl, rfl, hc⟩ := hrel
    obtain ⟨bd0, bd1⟩ := accI_bd' s p ((s[p].toNat : Int) - 192) (by omega) (by omega) k (by omega) hc
    by_cases hkn : k + 1 < 2
    · have HC := Lib.hid hc; clear hc
      by_cases hin : p + (k + 1) < s.size
      · have hlt := UInt8.toNat_lt s[p + (k + 1)]
        have HG := Lib.hid (get_eq s (p + (k + 1)) hin)
        by_cases c1 : (128 : Int) ≤ (s[p + (k + 1)].toNat : Int)
        · by_cases c2 : (s[p + (k + 1)].toNat : Int) < 192
          · have HK := Lib.hid (HC.out.succ ⟨hin, by rw [HG.out]; omega, by rw [HG.out]; omega⟩)
            go_wp2
            go_round
            case rel => exact ⟨k + 1, by omega, by go_num, by rw [accI, HG.out], HK.out⟩
            case measure => simp [intOf]; omega
          · have HK := Lib.hid (HN.out k hkn (by rintro ⟨_, _, hh⟩; rw [HG.out] at hh; omega))
            go_wp2
            go_ret2
            exact Chr.mk HK.out
        · have HK := Lib.hid (HN.out k hkn (by rintro ⟨_, hh, _⟩; rw [HG.out] at hh; omega))
          go_wp2
          go_ret2
          exact Chr.mk HK.out
      · have HK := Lib.hid (HN.out k hkn (by rintro ⟨hh, _, _⟩; omega))
        go_wp2
        go_ret2
        exact Chr.mk HK.out
    · obtain rfl : k = 1 := by omega
      have HK := Lib.hid (HE.out hc)
      clear HE HN hc
      generalize accI s p ((s[p].toNat : Int) - 192) 1 = x at *
      go_wp2
      all_goals go_ret2
      all_goals first | exact Chr.mk (HK.out.1 (by unfold badX; omega)) | exact Chr.mk (HK.out.2 (by unfold badX; omega))

set_option maxRecDepth 100000 in
set_option maxHeartbeats 2000000 in
theorem char_3 (s : ByteArray) (p : Nat) (hp : p < s.size) (_hs : s.size ≤ 140737488355328) (w : World) (hb : 224 ≤ (s[p].toNat : Int)) (hb2 : (s[p].toNat : Int) < 240) :
    Calls Tryz.prog 268 #[.string s, .int .i64 p] w (Chr s p w) := by
  have HE := Lib.hid (end_3 s p hp hb hb2)
  have HN := Lib.hid (no_3 s p hp hb hb2)
  go_enter Tryz.func268, Tryz.ntmps268
  go_wp2
  go_loop [8, 10] (fun r i => ∃ k : Nat, k < 3 ∧ i = .int .i64 ↑(k + 1) ∧ r = .int .i64 (accI s p ((s[p].toNat : Int) - 224) k) ∧ ContsTo s p k) (fun _ i => 4 - (intOf i).toNat)
  case atStart => exact ⟨0, by omega, by go_num, by simp [accI], ContsTo.zero s p⟩
  case round =>
    obtain ⟨k, hk, rfl, rfl, hc⟩ := hrel
    obtain ⟨bd0, bd1⟩ := accI_bd' s p ((s[p].toNat : Int) - 224) (by omega) (by omega) k (by omega) hc
    by_cases hkn : k + 1 < 3
    · have HC := Lib.hid hc; clear hc
      by_cases hin : p + (k + 1) < s.size
      · have hlt := UInt8.toNat_lt s[p + (k + 1)]
        have HG := Lib.hid (get_eq s (p + (k + 1)) hin)
        by_cases c1 : (128 : Int) ≤ (s[p + (k + 1)].toNat : Int)
        · by_cases c2 : (s[p + (k + 1)].toNat : Int) < 192
          · have HK := Lib.hid (HC.out.succ ⟨hin, by rw [HG.out]; omega, by rw [HG.out]; omega⟩)
            go_wp2
            go_round
            case rel => exact ⟨k + 1, by omega, by go_num, by rw [accI, HG.out], HK.out⟩
            case measure => simp [intOf]; omega
          · have HK := Lib.hid (HN.out k hkn (by rintro ⟨_, _, hh⟩; rw [HG.out] at hh; omega))
            go_wp2
            go_ret2
            exact Chr.mk HK.out
        · have HK := Lib.hid (HN.out k hkn (by rintro ⟨_, hh, _⟩; rw [HG.out] at hh; omega))
          go_wp2
          go_ret2
          exact Chr.mk HK.out
      · have HK := Lib.hid (HN.out k hkn (by rintro ⟨hh, _, _⟩; omega))
        go_wp2
        go_ret2
        exact Chr.mk HK.out
    · obtain rfl : k = 2 := by omega
      have HK := Lib.hid (HE.out hc)
      clear HE HN hc
      generalize accI s p ((s[p].toNat : Int) - 224) 2 = x at *
      go_wp2
      all_goals go_ret2
      all_goals first | exact Chr.mk (HK.out.1 (by unfold badX; omega)) | exact Chr.mk (HK.out.2 (by unfold badX; omega))

set_option maxRecDepth 100000 in
set_option maxHeartbeats 2000000 in
theorem char_4 (s : ByteArray) (p : Nat) (hp : p < s.size) (_hs : s.size ≤ 140737488355328) (w : World) (hb : 240 ≤ (s[p].toNat : Int)) (hb2 : (s[p].toNat : Int) < 248) :
    Calls Tryz.prog 268 #[.string s, .int .i64 p] w (Chr s p w) := by
  have HE := Lib.hid (end_4 s p hp hb hb2)
  have HN := Lib.hid (no_4 s p hp hb hb2)
  go_enter Tryz.func268, Tryz.ntmps268
  go_wp2
  go_loop [8, 10] (fun r i => ∃ k : Nat, k < 4 ∧ i = .int .i64 ↑(k + 1) ∧ r = .int .i64 (accI s p ((s[p].toNat : Int) - 240) k) ∧ ContsTo s p k) (fun _ i => 5 - (intOf i).toNat)
  case atStart => exact ⟨0, by omega, by go_num, by simp [accI], ContsTo.zero s p⟩
  case round =>
    obtain ⟨k, hk, rfl, rfl, hc⟩ := hrel
    obtain ⟨bd0, bd1⟩ := accI_bd' s p ((s[p].toNat : Int) - 240) (by omega) (by omega) k (by omega) hc
    by_cases hkn : k + 1 < 4
    · have HC := Lib.hid hc; clear hc
      by_cases hin : p + (k + 1) < s.size
      · have hlt := UInt8.toNat_lt s[p + (k + 1)]
        have HG := Lib.hid (get_eq s (p + (k + 1)) hin)
        by_cases c1 : (128 : Int) ≤ (s[p + (k + 1)].toNat : Int)
        · by_cases c2 : (s[p + (k + 1)].toNat : Int) < 192
          · have HK := Lib.hid (HC.out.succ ⟨hin, by rw [HG.out]; omega, by rw [HG.out]; omega⟩)
            go_wp2
            go_round
            case rel => exact ⟨k + 1, by omega, by go_num, by rw [accI, HG.out], HK.out⟩
            case measure => simp [intOf]; omega
          · have HK := Lib.hid (HN.out k hkn (by rintro ⟨_, _, hh⟩; rw [HG.out] at hh; omega))
            go_wp2
            go_ret2
            exact Chr.mk HK.out
        · have HK := Lib.hid (HN.out k hkn (by rintro ⟨_, hh, _⟩; rw [HG.out] at hh; omega))
          go_wp2
          go_ret2
          exact Chr.mk HK.out
      · have HK := Lib.hid (HN.out k hkn (by rintro ⟨hh, _, _⟩; omega))
        go_wp2
        go_ret2
        exact Chr.mk HK.out
    · obtain rfl : k = 3 := by omega
      have HK := Lib.hid (HE.out hc)
      clear HE HN hc
      generalize accI s p ((s[p].toNat : Int) - 240) 3 = x at *
      go_wp2
      all_goals go_ret2
      all_goals first | exact Chr.mk (HK.out.1 (by unfold badX; omega)) | exact Chr.mk (HK.out.2 (by unfold badX; omega))

/-- arborref01.Char at any place inside the text: the character's rune (-1 of a broken one) and how many bytes it has. -/
theorem char_any (s : ByteArray) (p : Nat) (hp : p < s.size) (hs : s.size ≤ 140737488355328) (w : World) :
    Calls Tryz.prog 268 #[.string s, .int .i64 p] w (Chr s p w) := by
  have hlt := UInt8.toNat_lt s[p]
  by_cases h1 : (s[p].toNat : Int) < 128
  · exact char_one s p hp hs w h1
  · by_cases h2 : (s[p].toNat : Int) < 192
    · exact char_other s p hp hs w (.inl ⟨by omega, h2⟩)
    · by_cases h3 : (s[p].toNat : Int) < 224
      · exact char_2 s p hp hs w (by omega) h3
      · by_cases h4 : (s[p].toNat : Int) < 240
        · exact char_3 s p hp hs w (by omega) h4
        · by_cases h5 : (s[p].toNat : Int) < 248
          · exact char_4 s p hp hs w (by omega) h5
          · exact char_other s p hp hs w (.inr (by omega))
end Go.Proofs.YtbpmmmnphpkdjaaGreatDoor
namespace Go.Proofs.YtbpmmmnphpkdjaaGreatDoor
open Go.RowKit

def firstF (s : ByteArray) : Nat → Nat → Int × Int
  | 0, _ => (-1, 1)
  | f + 1, p => if p < s.size then (if charK s p = 1 then firstF s f (p + charW s p) else ((p : Int), charK s p)) else (-1, 1)
def firstI (s : ByteArray) : Int × Int := firstF s s.size 0
theorem firstF_end (s : ByteArray) (f p : Nat) (h : ¬ p < s.size) : firstF s f p = (-1, 1) := by cases f <;> simp [firstF, h]
theorem firstF_go (s : ByteArray) (f p : Nat) (h : p < s.size) (hk : charK s p = 1) : firstF s (f + 1) p = firstF s f (p + charW s p) := by simp [firstF, h, hk]
theorem firstF_stop (s : ByteArray) (f p : Nat) (h : p < s.size) (hk : charK s p ≠ 1) : firstF s (f + 1) p = ((p : Int), charK s p) := by simp [firstF, h, hk]

def unitsF (s : ByteArray) : Nat → Nat → Nat
  | 0, _ => 0
  | f + 1, p => if p < s.size then (if 65536 ≤ (Utf8.decode s p).1 then 2 else 1) + unitsF s f (p + charW s p) else 0
def unitsI (s : ByteArray) : Nat := unitsF s s.size 0
theorem unitsF_end (s : ByteArray) (f p : Nat) (h : ¬ p < s.size) : unitsF s f p = 0 := by cases f <;> simp [unitsF, h]

def Ret2 (w : World) (a b : Int) (e : Ending) (w' : World) : Prop := e = .returned (.tuple #[.int .i64 a, .int .i64 b]) ∧ Below w.heap.size w w'
theorem Ret2.mk {w w' : World} {a b c d : Int} (h : Below w.heap.size w w') (e : c = a ∧ d = b) : Ret2 w a b (.returned (.tuple #[.int .i64 c, .int .i64 d])) w' := ⟨by rw [e.1, e.2], h⟩
def Ret1 (w : World) (a : Int) (e : Ending) (w' : World) : Prop := e = .returned (.int .i64 a) ∧ Below w.heap.size w w'
theorem Ret1.mk {w w' : World} {a c : Int} (h : Below w.heap.size w w') (e : c = a) : Ret1 w a (.returned (.int .i64 c)) w' := ⟨by rw [e], h⟩

set_option maxHeartbeats 4000000 in
theorem first_any (s : ByteArray) (hs : s.size ≤ 140737488355328) (w : World) :
    Calls Tryz.prog 242 #[.string s] w (Ret2 w (firstI s).1 (firstI s).2) := by
  go_enter Tryz.func242, Tryz.ntmps242
  go_wp2
  go_loopw [] (fun wr => ∃ (p f : Nat), wr.heap[w.heap.size]? = some (.stringIter s p) ∧ Below w.heap.size w wr ∧ firstF s f p = firstI s ∧ s.size ≤ p + f) (fun wr => s.size - wr.iterPos w.heap.size)
  case atStart => exact ⟨0, s.size, World.iter_heap w s 0, (Below.refl _ w).alloc (Nat.le_refl _) _, rfl, by omega⟩
  case round =>
    obtain ⟨p, f, hit, hbw, hF, hfu⟩ := hrel
    have HF := Lib.hid hF; clear hF
    by_cases hp : p < s.size
    · have hnx : ∀ ty, (Instr.next (.pointer (some ⟨w.heap.size, 0, none⟩)) true ty).run Tryz.prog wr = _ := fun ty => Lib.run_next_any_at wr w.heap.size s p ty hit hp
      have hd1 := decode_le s p
      have hit2 := Lib.iterAt_heap wr w.heap.size s p (p + (Utf8.decode s p).2) hit
      have hbw2 := Lib.below_iterAt hbw (k := w.heap.size) (by omega) s (p + (Utf8.decode s p).2)
      have HIT := Lib.hid hit; have HIT2 := Lib.hid hit2; have HB2 := Lib.hid hbw2; have HB := Lib.hid hbw
      clear hit hit2 hbw hbw2
      have hw1 := charW_pos s p
      obtain ⟨g, rfl⟩ : ∃ g, f = g + 1 := ⟨f - 1, by omega⟩
      by_cases hk : charK s p = 1
      · have HK := Lib.hid hk
        have hkb : (charK s p == 1) = true := by simp [hk]
        have hkc : (charK s p != 1) = false := by simp [hk]
        clear hk
        go_wp2_with (go_at_call 264; refine (of_any s p hp hs _).mono ?_; rintro e w' ⟨rfl, rfl⟩)
        go_roundw
        case rel => exact ⟨p + charW s p, g, HIT2.out, HB2.out, by rw [← HF.out, firstF_go s g p hp HK.out], by omega⟩
        case measure =>
          have e1 := HIT2.out; have e0 := HIT.out
          simp only [World.iterPos, e1, e0]
          unfold charW at hw1; omega
      · have HK := Lib.hid hk
        have hkb : (charK s p == 1) = false := by simp [hk]
        have hkc : (charK s p != 1) = true := by simp [hk]
        clear hk
        go_wp2_with (go_at_call 264; refine (of_any s p hp hs _).mono ?_; rintro e w' ⟨rfl, rfl⟩)
        go_ret2
        exact Ret2.mk HB2.out (by rw [← HF.out, firstF_stop s g p hp HK.out]; exact ⟨rfl, rfl⟩)
    · have hnx : ∀ ty, (Instr.next (.pointer (some ⟨w.heap.size, 0, none⟩)) true ty).run Tryz.prog wr = _ := fun ty => Lib.run_next_end_at wr w.heap.size s p ty hit hp
      have HB := Lib.hid hbw; clear hbw
      go_wp2
      go_ret2
      exact Ret2.mk HB.out (by rw [← HF.out, firstF_end s f p hp]; exact ⟨rfl, rfl⟩)

theorem kindI_far (r : Nat) (h : r ≤ 1114111) : (kindI (r : Int) == 7) = decide (65536 ≤ r) := by
  rw [Bool.eq_iff_iff]; simp only [beq_iff_eq, decide_eq_true_eq]
  unfold kindI; repeat' split
  all_goals omega

end Go.Proofs.YtbpmmmnphpkdjaaGreatDoor

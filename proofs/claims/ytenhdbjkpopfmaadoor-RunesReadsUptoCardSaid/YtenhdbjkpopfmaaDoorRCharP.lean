/- Plain facts on the reference's way to read a character: what it puts together of the bytes is what stands there. No program in sight; no condition. -/
import Derived.Test.YtenhdbjkpopfmaaDoorRPlain
namespace Go.Proofs.YtenhdbjkpopfmaaDoor

/-- continuation byte at a place -/
def contAt (s : ByteArray) (j : Nat) : Prop := j < s.size ∧ 128 ≤ (s.get! j).toNat ∧ (s.get! j).toNat < 192
theorem contAt_N (s : ByteArray) (p k : Nat) : contAt s (p + k) ↔ contN (s.size - p) k (s.get! (p + k)).toNat := by
  unfold contAt contN; constructor <;> intro h <;> exact ⟨by omega, by omega, by omega⟩
/-- what is put together of the continuation bytes before the k-th -/
def accI (s : ByteArray) (p : Nat) (r0 : Int) : Nat → Int
  | 0 => r0
  | k + 1 => 64 * accI s p r0 k + (s.get! (p + (k + 1))).toNat - 128
theorem broken_char {s : ByteArray} {p : Nat} (h : Utf8.decode s p = (65533, 1)) : charR s p = -1 ∧ (charW s p : Int) = 1 := by
  unfold charR charW; rw [h]; exact ⟨rfl, rfl⟩
theorem good_char {s : ByteArray} {p : Nat} {c n : Nat} (h : Utf8.decode s p = (c, n)) (hn : n ≠ 1) : charR s p = c ∧ (charW s p : Int) = n := by
  unfold charR charW; rw [h]; exact ⟨by rw [if_neg (fun hh => hn hh.2)], rfl⟩


def ContsTo (s : ByteArray) (p k : Nat) : Prop := ∀ j, 1 ≤ j → j ≤ k → contAt s (p + j)
theorem ContsTo.zero (s : ByteArray) (p : Nat) : ContsTo s p 0 := fun j h1 h2 => by omega
theorem ContsTo.succ {s : ByteArray} {p k : Nat} (h : ContsTo s p k) (hc : contAt s (p + (k + 1))) : ContsTo s p (k + 1) := fun j h1 h2 => by
  by_cases e : j = k + 1
  · rw [e]; exact hc
  · exact h j h1 (by omega)
theorem accI_bd (s : ByteArray) (p : Nat) (r0 : Int) (h0 : 0 ≤ r0) (h1 : r0 < 32) : ∀ k, k ≤ 3 → ContsTo s p k → 0 ≤ accI s p r0 k ∧ accI s p r0 k < (if k = 0 then 32 else if k = 1 then 2048 else if k = 2 then 131072 else 8388608)
  | 0, _, _ => ⟨h0, by simpa [accI] using h1⟩
  | k + 1, hk, h => by
    have ih := accI_bd s p r0 h0 h1 k (by omega) (fun j a b => h j a (by omega))
    obtain ⟨_, c1, c2⟩ := h (k + 1) (by omega) (by omega)
    unfold accI
    match k, hk with
    | 0, _ => simp at ih c1 c2 ⊢; omega
    | 1, _ => simp at ih c1 c2 ⊢; omega
    | 2, _ => simp at ih c1 c2 ⊢; omega
theorem accI_bd' (s : ByteArray) (p : Nat) (r0 : Int) (h0 : 0 ≤ r0) (h1 : r0 < 32) (k : Nat) (hk : k ≤ 3) (h : ContsTo s p k) : 0 ≤ accI s p r0 k ∧ accI s p r0 k < 8388608 := by
  have bd := accI_bd s p r0 h0 h1 k hk h
  refine ⟨bd.1, ?_⟩
  have h2 := bd.2
  revert h2
  repeat' split
  all_goals omega

/-- Is what was put together no character's number? -/
def badX (least x : Int) : Prop := (x < least ∨ 1114111 < x) ∨ (55296 ≤ x ∧ x ≤ 57343)

set_option maxRecDepth 100000 in
theorem end_2 (s : ByteArray) (p : Nat) (hp : p < s.size) (hb : 192 ≤ (s[p].toNat : Int)) (hb2 : (s[p].toNat : Int) < 224) (hc : ContsTo s p 1) :
    (badX 128 (accI s p ((s[p].toNat : Int) - 192) 1) → charR s p = -1 ∧ (charW s p : Int) = 1) ∧ (¬ badX 128 (accI s p ((s[p].toNat : Int) - 192) 1) → charR s p = accI s p ((s[p].toNat : Int) - 192) 1 ∧ (charW s p : Int) = 2) := by
  have g := get_eq s p hp
  have d := dec2_ok (s.size - p) (s.get! p).toNat (s.get! (p + 1)).toNat (s.get! (p + 2)).toNat (s.get! (p + 3)).toNat (by rw [g]; omega) ((contAt_N s p 1).1 (hc 1 (by omega) (by omega)))
  rw [← Lib.decode_at, g] at d
  obtain ⟨_, x1, y1⟩ := hc 1 (by omega) (by omega)
  have e : accI s p ((s[p].toNat : Int) - 192) 1 = ((64 * (s[p].toNat - 192) + (s.get! (p + 1)).toNat - 128 : Nat) : Int) := by simp [accI]; omega
  rw [e]
  unfold badX
  constructor
  · intro h
    rw [if_pos (by omega)] at d
    exact broken_char d
  · intro h
    rw [if_neg (by omega)] at d
    exact good_char (n := 2) d (by decide)

theorem no_2 (s : ByteArray) (p : Nat) (hp : p < s.size) (hb : 192 ≤ (s[p].toNat : Int)) (hb2 : (s[p].toNat : Int) < 224) (k : Nat) (hk : k + 1 < 2) (hc : ¬ contAt s (p + (k + 1))) :
    charR s p = -1 ∧ (charW s p : Int) = 1 := by
  apply broken_char
  rw [contAt_N] at hc
  rw [Lib.decode_at]
  refine dec2_no _ _ _ _ _ (by rw [get_eq s p hp]; omega) (byteU _ _) ?_
  match k, hk with
  | 0, _ => exact hc


set_option maxRecDepth 100000 in
theorem end_3 (s : ByteArray) (p : Nat) (hp : p < s.size) (hb : 224 ≤ (s[p].toNat : Int)) (hb2 : (s[p].toNat : Int) < 240) (hc : ContsTo s p 2) :
    (badX 2048 (accI s p ((s[p].toNat : Int) - 224) 2) → charR s p = -1 ∧ (charW s p : Int) = 1) ∧ (¬ badX 2048 (accI s p ((s[p].toNat : Int) - 224) 2) → charR s p = accI s p ((s[p].toNat : Int) - 224) 2 ∧ (charW s p : Int) = 3) := by
  have g := get_eq s p hp
  have d := dec3_ok (s.size - p) (s.get! p).toNat (s.get! (p + 1)).toNat (s.get! (p + 2)).toNat (s.get! (p + 3)).toNat (by rw [g]; omega) ((contAt_N s p 1).1 (hc 1 (by omega) (by omega))) ((contAt_N s p 2).1 (hc 2 (by omega) (by omega)))
  rw [← Lib.decode_at, g] at d
  obtain ⟨_, x1, y1⟩ := hc 1 (by omega) (by omega)
  obtain ⟨_, x2, y2⟩ := hc 2 (by omega) (by omega)
  have e : accI s p ((s[p].toNat : Int) - 224) 2 = ((64 * (64 * (s[p].toNat - 224) + (s.get! (p + 1)).toNat - 128) + (s.get! (p + 2)).toNat - 128 : Nat) : Int) := by simp [accI]; omega
  rw [e]
  unfold badX
  constructor
  · intro h
    rw [if_pos (by omega)] at d
    exact broken_char d
  · intro h
    rw [if_neg (by omega)] at d
    exact good_char (n := 3) d (by decide)

theorem no_3 (s : ByteArray) (p : Nat) (hp : p < s.size) (hb : 224 ≤ (s[p].toNat : Int)) (hb2 : (s[p].toNat : Int) < 240) (k : Nat) (hk : k + 1 < 3) (hc : ¬ contAt s (p + (k + 1))) :
    charR s p = -1 ∧ (charW s p : Int) = 1 := by
  apply broken_char
  rw [contAt_N] at hc
  rw [Lib.decode_at]
  refine dec3_no _ _ _ _ _ (by rw [get_eq s p hp]; omega) (byteU _ _) (byteU _ _) ?_
  match k, hk with
  | 0, _ => exact .inl hc
  | 1, _ => exact .inr hc


set_option maxRecDepth 100000 in
theorem end_4 (s : ByteArray) (p : Nat) (hp : p < s.size) (hb : 240 ≤ (s[p].toNat : Int)) (hb2 : (s[p].toNat : Int) < 248) (hc : ContsTo s p 3) :
    (badX 65536 (accI s p ((s[p].toNat : Int) - 240) 3) → charR s p = -1 ∧ (charW s p : Int) = 1) ∧ (¬ badX 65536 (accI s p ((s[p].toNat : Int) - 240) 3) → charR s p = accI s p ((s[p].toNat : Int) - 240) 3 ∧ (charW s p : Int) = 4) := by
  have g := get_eq s p hp
  have d := dec4_ok (s.size - p) (s.get! p).toNat (s.get! (p + 1)).toNat (s.get! (p + 2)).toNat (s.get! (p + 3)).toNat (by rw [g]; omega) ((contAt_N s p 1).1 (hc 1 (by omega) (by omega))) ((contAt_N s p 2).1 (hc 2 (by omega) (by omega))) ((contAt_N s p 3).1 (hc 3 (by omega) (by omega)))
  rw [← Lib.decode_at, g] at d
  obtain ⟨_, x1, y1⟩ := hc 1 (by omega) (by omega)
  obtain ⟨_, x2, y2⟩ := hc 2 (by omega) (by omega)
  obtain ⟨_, x3, y3⟩ := hc 3 (by omega) (by omega)
  have e : accI s p ((s[p].toNat : Int) - 240) 3 = ((64 * (64 * (64 * (s[p].toNat - 240) + (s.get! (p + 1)).toNat - 128) + (s.get! (p + 2)).toNat - 128) + (s.get! (p + 3)).toNat - 128 : Nat) : Int) := by simp [accI]; omega
  rw [e]
  unfold badX
  constructor
  · intro h
    rw [if_pos (by omega)] at d
    exact broken_char d
  · intro h
    rw [if_neg (by omega)] at d
    exact good_char (n := 4) d (by decide)

theorem no_4 (s : ByteArray) (p : Nat) (hp : p < s.size) (hb : 240 ≤ (s[p].toNat : Int)) (hb2 : (s[p].toNat : Int) < 248) (k : Nat) (hk : k + 1 < 4) (hc : ¬ contAt s (p + (k + 1))) :
    charR s p = -1 ∧ (charW s p : Int) = 1 := by
  apply broken_char
  rw [contAt_N] at hc
  rw [Lib.decode_at]
  refine dec4_no _ _ _ _ _ (by rw [get_eq s p hp]; omega) (byteU _ _) (byteU _ _) (byteU _ _) ?_
  match k, hk with
  | 0, _ => exact .inl hc
  | 1, _ => exact .inr (.inl hc)
  | 2, _ => exact .inr (.inr hc)

end Go.Proofs.YtenhdbjkpopfmaaDoor

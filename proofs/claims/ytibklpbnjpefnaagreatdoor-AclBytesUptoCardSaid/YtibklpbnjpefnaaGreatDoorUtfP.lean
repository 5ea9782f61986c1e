/- Plain facts: the reference's table of first bytes tells UTF-8 as the library's own check does; a text's characters are above the blank etc. just where its bytes are. No program in sight; no condition. -/
import Derived.Lib.DecodeN
import Derived.Lib.DecodeNEq
import Derived.Lib.TrimUEq
import Derived.Lib.ValidLaws
namespace Go.Proofs.YtibklpbnjpefnaaGreatDoor

/-- how many bytes stand behind the first of a character, the least and the greatest second one; -1: none -/
def moreI (b : Nat) : Int × Nat × Nat :=
  if b < 128 then (0, 0, 0) else if 194 ≤ b ∧ b ≤ 223 then (1, 128, 191) else if b = 224 then (2, 160, 191) else if b = 237 then (2, 128, 159)
  else if 225 ≤ b ∧ b ≤ 239 then (2, 128, 191) else if b = 240 then (3, 144, 191) else if b = 244 then (3, 128, 143) else if 241 ≤ b ∧ b ≤ 243 then (3, 128, 191) else (-1, 0, 0)
/-- how many bytes the character at the beginning has, by the table; none: it is broken -/
def nextM (len b0 b1 b2 b3 : Nat) : Option Nat :=
  if (moreI b0).1 < 0 ∨ (0 < (moreI b0).1 ∧ (len : Int) ≤ (moreI b0).1) then none
  else if 1 ≤ (moreI b0).1 ∧ (b1 < (moreI b0).2.1 ∨ (moreI b0).2.2 < b1) then none
  else if 2 ≤ (moreI b0).1 ∧ (b2 < 128 ∨ 191 < b2) then none
  else if 3 ≤ (moreI b0).1 ∧ (b3 < 128 ∨ 191 < b3) then none
  else some ((moreI b0).1.toNat + 1)
/-- the same by the library's tables -/
def nextC (len b0 b1 b2 b3 : Nat) : Option Nat :=
  if b0 < 128 then some 1 else Lib.checkN len b1 b2 b3 (Lib.firstT b0 % 8) (Lib.accLo (Lib.firstT b0 / 16)) (Lib.accHi (Lib.firstT b0 / 16))
theorem nextM_ascii (len b0 b1 b2 b3 : Nat) (h : b0 < 128) : nextM len b0 b1 b2 b3 = some 1 := by simp [nextM, moreI, h]
theorem nextM_of (len b0 b1 b2 b3 : Nat) (n : Int) (sz lo hi : Nat) (hm : moreI b0 = (n, lo, hi)) (h0 : ¬ b0 < 128) (hs : Lib.firstT b0 % 8 = sz) (hn : (n = 1 ∧ sz = 2) ∨ (n = 2 ∧ sz = 3) ∨ (n = 3 ∧ sz = 4))
    (hlo : Lib.accLo (Lib.firstT b0 / 16) = lo) (hhi : Lib.accHi (Lib.firstT b0 / 16) = hi) : nextM len b0 b1 b2 b3 = nextC len b0 b1 b2 b3 := by
  unfold nextM nextC Lib.checkN
  rw [hm, hs, hlo, hhi, if_neg h0]
  rcases hn with ⟨rfl, rfl⟩ | ⟨rfl, rfl⟩ | ⟨rfl, rfl⟩ <;> simp only [] <;> repeat' split
  all_goals first | rfl | (exfalso; omega) | simp_all
  all_goals omega
theorem nextM_bad (len b0 b1 b2 b3 : Nat) (hm : moreI b0 = (-1, 0, 0)) (h0 : ¬ b0 < 128) (hs : Lib.firstT b0 = 241) : nextM len b0 b1 b2 b3 = nextC len b0 b1 b2 b3 := by
  unfold nextM nextC Lib.checkN
  rw [hm, hs, if_neg h0]; simp
theorem nextM_eq (len b0 b1 b2 b3 : Nat) : nextM len b0 b1 b2 b3 = nextC len b0 b1 b2 b3 := by
  by_cases h0 : b0 < 128
  · rw [nextM_ascii _ _ _ _ _ h0]; simp [nextC, h0]
  by_cases c0 : b0 < 194
  · exact nextM_bad _ _ _ _ _ (by unfold moreI; (repeat' split) <;> first | rfl | omega) h0 (by unfold Lib.firstT; (repeat' split) <;> first | rfl | omega)
  by_cases c9 : 245 ≤ b0
  · exact nextM_bad _ _ _ _ _ (by unfold moreI; (repeat' split) <;> first | rfl | omega) h0 (by unfold Lib.firstT; (repeat' split) <;> first | rfl | omega)
  have d : ∀ (f : Nat) (n : Int) (sz lo hi : Nat), Lib.firstT b0 = f → moreI b0 = (n, lo, hi) → f % 8 = sz → (n = 1 ∧ sz = 2) ∨ (n = 2 ∧ sz = 3) ∨ (n = 3 ∧ sz = 4) → Lib.accLo (f / 16) = lo → Lib.accHi (f / 16) = hi → nextM len b0 b1 b2 b3 = nextC len b0 b1 b2 b3 :=
    fun f n sz lo hi hf hm hs hn hlo hhi => nextM_of _ _ _ _ _ n sz lo hi hm h0 (by rw [hf, hs]) hn (by rw [hf, hlo]) (by rw [hf, hhi])
  by_cases c1 : b0 < 224
  · exact d 2 1 2 128 191 (Lib.firstT_C2 ⟨by omega, c1⟩) (by unfold moreI; (repeat' split) <;> first | rfl | omega) rfl (by omega) rfl rfl
  by_cases c2 : b0 = 224
  · subst c2; exact d 19 2 3 160 191 rfl rfl rfl (by omega) rfl rfl
  by_cases c4 : b0 = 237
  · subst c4; exact d 35 2 3 128 159 rfl rfl rfl (by omega) rfl rfl
  by_cases c5 : b0 < 240
  · exact d 3 2 3 128 191 (Lib.firstT_E1 (by omega)) (by unfold moreI; (repeat' split) <;> first | rfl | omega) rfl (by omega) rfl rfl
  by_cases c6 : b0 = 240
  · subst c6; exact d 52 3 4 144 191 rfl rfl rfl (by omega) rfl rfl
  by_cases c8 : b0 = 244
  · subst c8; exact d 68 3 4 128 143 rfl rfl rfl (by omega) rfl rfl
  exact d 4 3 4 128 191 (Lib.firstT_F1 (by omega)) (by unfold moreI; (repeat' split) <;> first | rfl | omega) rfl (by omega) rfl rfl

theorem get_dropU (s : ByteArray) (p k : Nat) : (s.data.toList.drop p).getD k 0 = s.get! (p + k) := by
  rw [List.getD_eq_getElem?_getD, List.getElem?_drop]
  show _ = s.data[p + k]!
  by_cases h : p + k < s.data.size
  · rw [getElem!_pos s.data _ h, List.getElem?_eq_getElem (by simpa using h)]; simp
  · rw [getElem!_neg s.data _ h, List.getElem?_eq_none (by simpa using h)]; rfl
/-- is the text right from a place on? -/
def validFrom (s : ByteArray) (p : Nat) : Bool := Lib.validD (s.data.toList.drop p)
theorem validFrom_end (s : ByteArray) (p : Nat) (h : ¬ p < s.size) : validFrom s p = true := by
  unfold validFrom; rw [List.drop_eq_nil_of_le (by simpa using h)]; exact Lib.validD_nil
/-- ONE CHARACTER OF THE REFERENCE's CHECK. -/
theorem validFrom_step (s : ByteArray) (p : Nat) (h : p < s.size) :
    validFrom s p = match nextM (s.size - p) (s.get! p).toNat (s.get! (p + 1)).toNat (s.get! (p + 2)).toNat (s.get! (p + 3)).toNat with | none => false | some k => validFrom s (p + k) := by
  rw [nextM_eq]; unfold nextC validFrom
  have hlen : (s.data.toList.drop p).length = s.size - p := by simp
  have hne : s.data.toList.drop p ≠ [] := by
    intro h'; have : (s.data.toList.drop p).length = 0 := by rw [h']; rfl
    omega
  have g0 : (s.data.toList.drop p).getD 0 0 = s.get! p := get_dropU s p 0
  by_cases h0 : (s.get! p).toNat < 128
  · rw [if_pos h0]
    have hc : s.data.toList.drop p = s.get! p :: s.data.toList.drop (p + 1) := by
      rw [List.drop_eq_getElem_cons (by simpa using h)]
      congr 1
      show _ = s.data[p]!
      rw [getElem!_pos s.data p h]; simp
    rw [hc, Lib.validD_cons _ _ h0]
  · rw [if_neg h0, Lib.validD_lead _ hne (by rw [g0]; omega), g0, get_dropU, get_dropU, get_dropU, hlen]
    simp only [List.drop_drop]
    generalize Lib.checkN _ _ _ _ _ _ _ = o
    cases o <;> rfl

/-! ### the letters of a scheme, of an id -/
/-- may a byte (or a character) stand in a text? -/
def okB (b : Nat) : Bool := decide (33 ≤ b) && decide (b ≠ 127) && decide (b ≠ 44)
/-- all from a place on -/
def okFrom (s : ByteArray) (p : Nat) : Bool := (s.data.toList.drop p).all (fun b => okB b.toNat)
theorem okFrom_end (s : ByteArray) (p : Nat) (h : ¬ p < s.size) : okFrom s p = true := by
  unfold okFrom; rw [List.drop_eq_nil_of_le (by simpa using h)]; rfl
theorem okFrom_step (s : ByteArray) (p : Nat) (h : p < s.size) : okFrom s p = (okB (s.get! p).toNat && okFrom s (p + 1)) := by
  have hc : s.data.toList.drop p = s.get! p :: s.data.toList.drop (p + 1) := by
    rw [List.drop_eq_getElem_cons (by simpa using h)]
    congr 1
    show _ = s.data[p]!
    rw [getElem!_pos s.data p h]; simp
  unfold okFrom; rw [hc]; rfl
theorem okB_high (b : Nat) (h : 128 ≤ b) : okB b = true := by simp [okB]; omega
theorem decodeN_low (n b0 b1 b2 b3 : Nat) (h : b0 < 128) : Lib.decodeN n b0 b1 b2 b3 = (b0, 1) := by simp [Lib.decodeN, h]
set_option maxHeartbeats 4000000 in
theorem decodeN_high (n b0 b1 b2 b3 : Nat) (h : ¬ b0 < 128) : 128 ≤ (Lib.decodeN n b0 b1 b2 b3).1 ∧ (1 < (Lib.decodeN n b0 b1 b2 b3).2 → 128 ≤ b1 ∧ 1 < n) ∧ (2 < (Lib.decodeN n b0 b1 b2 b3).2 → 128 ≤ b2 ∧ 2 < n) ∧ (3 < (Lib.decodeN n b0 b1 b2 b3).2 → 128 ≤ b3 ∧ 3 < n)
    ∧ (Lib.decodeN n b0 b1 b2 b3).2 ≤ 4 ∧ 1 ≤ (Lib.decodeN n b0 b1 b2 b3).2 := by
  unfold Lib.decodeN; rw [if_neg h]; repeat' split
  all_goals (refine ⟨?_, ?_, ?_, ?_, ?_, ?_⟩ <;> simp <;> omega)
/-- ONE CHARACTER OF THE PROGRAM's CHECK. -/
theorem okFrom_rune (s : ByteArray) (p : Nat) (h : p < s.size) : okFrom s p = (okB (Utf8.decode s p).1 && okFrom s (p + (Utf8.decode s p).2)) := by
  rw [Lib.decode_at]
  by_cases h0 : (s.get! p).toNat < 128
  · rw [decodeN_low _ _ _ _ _ h0]; exact okFrom_step s p h
  · have hh := decodeN_high (s.size - p) (s.get! p).toNat (s.get! (p + 1)).toNat (s.get! (p + 2)).toNat (s.get! (p + 3)).toNat h0
    revert hh
    generalize Lib.decodeN (s.size - p) (s.get! p).toNat (s.get! (p + 1)).toNat (s.get! (p + 2)).toNat (s.get! (p + 3)).toNat = d
    obtain ⟨r, w⟩ := d
    simp only []
    rintro ⟨h1, h2, h3, h4, h5, h6⟩
    rw [okB_high _ h1, okFrom_step s p h, okB_high _ (by omega), Bool.true_and, Bool.true_and]
    have : w = 1 ∨ w = 2 ∨ w = 3 ∨ w = 4 := by omega
    rcases this with rfl | rfl | rfl | rfl
    · rfl
    · rw [okFrom_step s (p + 1) (by omega), okB_high _ (h2 (by omega)).1, Bool.true_and]
    · rw [okFrom_step s (p + 1) (by omega), okB_high _ (h2 (by omega)).1, Bool.true_and, okFrom_step s (p + 1 + 1) (by omega), okB_high _ (h3 (by omega)).1, Bool.true_and]
    · rw [okFrom_step s (p + 1) (by omega), okB_high _ (h2 (by omega)).1, Bool.true_and, okFrom_step s (p + 1 + 1) (by omega), okB_high _ (h3 (by omega)).1, Bool.true_and, okFrom_step s (p + 1 + 1 + 1) (by omega), okB_high _ (h4 (by omega)).1, Bool.true_and]
/-- may a text be a scheme, an id? -/
def textOk (s : ByteArray) : Bool := decide (1 ≤ s.size) && decide (s.size ≤ 256) && validFrom s 0 && okFrom s 0
end Go.Proofs.YtibklpbnjpefnaaGreatDoor

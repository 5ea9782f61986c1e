/- Plain facts: a text that ends in a slash, and another behind it: each character of the two is a character of the whole. No program in sight; no condition. -/
import Derived.Test.YtenhdbjkpopfmaaDoorRBackP2
import Derived.Test.YtenhdbjkpopfmaaDoorRMap
namespace Go.Proofs.YtenhdbjkpopfmaaDoor

theorem decodeN_cont (n b0 b1 b2 b3 : Nat) : (1 < (Lib.decodeN n b0 b1 b2 b3).2 → b1 / 64 = 2) ∧ (2 < (Lib.decodeN n b0 b1 b2 b3).2 → b2 / 64 = 2) ∧ (3 < (Lib.decodeN n b0 b1 b2 b3).2 → b3 / 64 = 2) := by
  unfold Lib.decodeN; repeat' split
  all_goals (refine ⟨?_, ?_, ?_⟩ <;> intro h <;> simp at h <;> omega)
theorem cont_at (T : ByteArray) (p k : Nat) (h1 : 1 ≤ k) (hk : k < charW T p) : (T.get! (p + k)).toNat / 64 = 2 := by
  have h4 := charW_le4 T p
  unfold charW at hk h4
  rw [Lib.decode_at] at hk h4
  have c := decodeN_cont (T.size - p) (T.get! p).toNat (T.get! (p + 1)).toNat (T.get! (p + 2)).toNat (T.get! (p + 3)).toNat
  match k, h1 with
  | 1, _ => exact c.1 hk
  | 2, _ => exact c.2.1 hk
  | 3, _ => exact c.2.2 hk
  | k + 4, _ => omega
theorem get_app1 (a b : ByteArray) (k : Nat) (h : k < a.size) : (a ++ b).get! k = a.get! k := by
  have h' : k < (a ++ b).size := by simp; omega
  rw [get_eq _ _ h', get_eq _ _ h]
  show (a ++ b).data[k]'h' = a.data[k]'h
  simp only [ByteArray.data_append]
  exact Array.getElem_append_left h
theorem get_out (a : ByteArray) (k : Nat) (h : ¬ k < a.size) : a.get! k = 0 := by
  show a.data[k]! = 0
  rw [getElem!_neg a.data k h]; rfl
theorem get_app2 (a b : ByteArray) (k : Nat) : (a ++ b).get! (a.size + k) = b.get! k := by
  by_cases h : k < b.size
  · have h' : a.size + k < (a ++ b).size := by simp; omega
    rw [get_eq _ _ h', get_eq _ _ h]
    show (a ++ b).data[a.size + k]'h' = b.data[k]'h
    simp only [ByteArray.data_append]
    rw [Array.getElem_append_right (by show a.size ≤ _; omega)]
    congr 1
    show a.size + k - a.size = k
    omega
  · rw [get_out _ _ h, get_out _ _ (by simp; omega)]
theorem decode_app2 (a b : ByteArray) (k : Nat) : Utf8.decode (a ++ b) (a.size + k) = Utf8.decode b k := by
  rw [Lib.decode_at, Lib.decode_at, Nat.add_assoc, Nat.add_assoc, Nat.add_assoc, get_app2, get_app2, get_app2, get_app2]
  congr 1
  simp; omega
/-- the last byte is a slash -/
def Ends (a : ByteArray) : Prop := 0 < a.size ∧ a.get! (a.size - 1) = 47
theorem broken_eq (T : ByteArray) (p : Nat) (h : charK T p = 8) : Utf8.decode T p = (65533, 1) := by
  unfold charK at h
  split at h
  · rename_i hh; exact Prod.ext hh.1 hh.2
  · have := kindI_range ((Utf8.decode T p).1 : Int); omega
theorem decode_app1 (a b : ByteArray) (he : Ends a) (p : Nat) (hp : p < a.size) : Utf8.decode (a ++ b) p = Utf8.decode a p := by
  have hz : (a ++ b).size = a.size + b.size := by simp
  by_cases hk : charK a p = 8
  · by_cases hk2 : charK (a ++ b) p = 8
    · rw [broken_eq _ _ hk, broken_eq _ _ hk2]
    · by_cases hin : p + charW (a ++ b) p ≤ a.size
      · refine (char_same (s := a ++ b) (T := a) hk2 hin ?_).symm
        intro k hk3
        rw [get_app1 a b _ (by omega)]
      · by_cases hl : p = a.size - 1
        · have e0 : a.get! p = 47 := by rw [hl]; exact he.2
          rw [Lib.decode_at, Lib.decode_at, get_app1 a b p hp, e0]
          rfl
        · have c := cont_at (a ++ b) p (a.size - 1 - p) (by omega) (by omega)
          rw [show p + (a.size - 1 - p) = a.size - 1 from by omega, get_app1 a b _ (by omega), he.2] at c
          exact absurd c (by decide)
  · refine char_same hk (by have := charW_le a p hp; omega) ?_
    intro k hk3
    have := charW_le a p hp
    rw [get_app1 a b _ (by omega)]

/-- sums over the characters of a text -/
def accF (v : Nat × Nat → Nat) (s : ByteArray) : Nat → Nat → Nat
  | 0, _ => 0
  | f + 1, p => if p < s.size then v (Utf8.decode s p) + accF v s f (p + charW s p) else 0
theorem accF_end (v : Nat × Nat → Nat) (s : ByteArray) (f p : Nat) (h : ¬ p < s.size) : accF v s f p = 0 := by cases f <;> simp [accF, h]
theorem accF_fuel (v : Nat × Nat → Nat) (s : ByteArray) : ∀ (f g p : Nat), s.size ≤ p + f → s.size ≤ p + g → accF v s f p = accF v s g p
  | 0, g, p, h1, _ => by rw [accF_end v s g p (by omega)]; rfl
  | f + 1, 0, p, _, h2 => by rw [accF_end v s (f + 1) p (by omega)]; rfl
  | f + 1, g + 1, p, h1, h2 => by
    by_cases h : p < s.size
    · have := charW_pos s p
      simp only [accF, if_pos h]
      rw [accF_fuel v s f g _ (by omega) (by omega)]
    · rw [accF_end _ _ _ _ h, accF_end _ _ _ _ h]
theorem accF_app2 (v : Nat × Nat → Nat) (a b : ByteArray) : ∀ f k, accF v (a ++ b) f (a.size + k) = accF v b f k
  | 0, _ => rfl
  | f + 1, k => by
    have hz : (a ++ b).size = a.size + b.size := by simp
    have hw : charW (a ++ b) (a.size + k) = charW b k := by unfold charW; rw [decode_app2]
    by_cases h : k < b.size
    · simp only [accF]
      rw [if_pos h, if_pos (by omega), decode_app2, hw, Nat.add_assoc, accF_app2 v a b f]
    · rw [accF_end _ _ _ _ h, accF_end _ _ _ _ (by omega)]
theorem accF_app (v : Nat × Nat → Nat) (a b : ByteArray) (he : Ends a) : ∀ f p, p ≤ a.size → a.size + b.size ≤ p + f → accF v (a ++ b) f p = accF v a f p + accF v b b.size 0
  | 0, p, h1, h2 => by
    have : b.size = 0 := by omega
    rw [accF_end v b _ 0 (by omega)]; rfl
  | f + 1, p, h1, h2 => by
    have hz : (a ++ b).size = a.size + b.size := by simp
    by_cases h : p < a.size
    · have hd := decode_app1 a b he p h
      have hw : charW (a ++ b) p = charW a p := by unfold charW; rw [hd]
      have hwl := charW_le a p h
      have hwp := charW_pos a p
      simp only [accF]
      rw [if_pos h, if_pos (by omega), hd, hw, accF_app v a b he f _ hwl (by omega)]
      omega
    · obtain rfl : p = a.size := by omega
      have e : accF v (a ++ b) (f + 1) a.size = accF v b (f + 1) 0 := accF_app2 v a b (f + 1) 0
      rw [e, accF_end v a _ _ (by omega), Nat.zero_add]
      exact accF_fuel v b _ _ 0 (by omega) (by omega)
def unitV (d : Nat × Nat) : Nat := if 65536 ≤ d.1 then 2 else 1
def kindV (k : Int) (d : Nat × Nat) : Nat := if (if d.1 = 65533 ∧ d.2 = 1 then 8 else kindI (d.1 : Int)) = k then 1 else 0
theorem unitsF_acc (s : ByteArray) : ∀ f p, unitsF s f p = accF unitV s f p
  | 0, _ => rfl
  | f + 1, p => by simp only [unitsF, accF, unitsF_acc s f]; rfl
theorem cntF_acc (s : ByteArray) (k : Int) : ∀ f p, cntF s k f p = accF (kindV k) s f p
  | 0, _ => rfl
  | f + 1, p => by simp only [cntF, accF, cntF_acc s k f]; rfl
theorem units_app (a b : ByteArray) (he : Ends a) : unitsI (a ++ b) = unitsI a + unitsI b := by
  have hz : (a ++ b).size = a.size + b.size := by simp
  unfold unitsI
  rw [unitsF_acc, unitsF_acc, unitsF_acc, accF_app _ a b he _ 0 (by omega) (by omega), accF_fuel unitV a (a ++ b).size a.size 0 (by omega) (by omega)]
theorem cnt_app (a b : ByteArray) (he : Ends a) (k : Int) : cntI (a ++ b) k = cntI a k + cntI b k := by
  have hz : (a ++ b).size = a.size + b.size := by simp
  unfold cntI
  rw [cntF_acc, cntF_acc, cntF_acc, accF_app _ a b he _ 0 (by omega) (by omega), accF_fuel (kindV k) a (a ++ b).size a.size 0 (by omega) (by omega)]

theorem firstF_fuel (s : ByteArray) : ∀ (f g p : Nat), s.size ≤ p + f → s.size ≤ p + g → firstF s f p = firstF s g p
  | 0, g, p, h1, _ => by rw [firstF_end s g p (by omega)]; rfl
  | f + 1, 0, p, _, h2 => by rw [firstF_end s (f + 1) p (by omega)]; rfl
  | f + 1, g + 1, p, h1, h2 => by
    by_cases h : p < s.size
    · have := charW_pos s p
      simp only [firstF, if_pos h]
      rw [firstF_fuel s f g _ (by omega) (by omega)]
    · rw [firstF_end _ _ _ h, firstF_end _ _ _ h]
/-- the first one's, or else the second one's, behind it -/
def thenI (n : Nat) (x y : Int × Int) : Int × Int := if 0 ≤ x.1 then x else if 0 ≤ y.1 then ((n : Int) + y.1, y.2) else (-1, 1)
def shiftI (n : Nat) (y : Int × Int) : Int × Int := if 0 ≤ y.1 then ((n : Int) + y.1, y.2) else (-1, 1)
theorem firstF_app2 (a b : ByteArray) : ∀ f k, firstF (a ++ b) f (a.size + k) = shiftI a.size (firstF b f k)
  | 0, _ => by simp [firstF, shiftI]
  | f + 1, k => by
    have hz : (a ++ b).size = a.size + b.size := by simp
    have hw : charW (a ++ b) (a.size + k) = charW b k := by unfold charW; rw [decode_app2]
    have hk : charK (a ++ b) (a.size + k) = charK b k := by unfold charK; rw [decode_app2]
    by_cases h : k < b.size
    · by_cases e : charK b k = 1
      · rw [firstF_go b f k h e, firstF_go (a ++ b) f (a.size + k) (by omega) (by rw [hk]; exact e), hw, Nat.add_assoc, firstF_app2 a b f]
      · rw [firstF_stop b f k h e, firstF_stop (a ++ b) f (a.size + k) (by omega) (by rw [hk]; exact e), hk]
        unfold shiftI; rw [if_pos (by simp)]; simp
    · rw [firstF_end _ _ _ h, firstF_end _ _ _ (by omega)]; simp [shiftI]
theorem firstF_app (a b : ByteArray) (he : Ends a) : ∀ f p, p ≤ a.size → a.size + b.size ≤ p + f → firstF (a ++ b) f p = thenI a.size (firstF a f p) (firstI b)
  | 0, p, h1, h2 => by
    have hb : b.size = 0 := by omega
    have : firstI b = (-1, 1) := by unfold firstI; rw [hb]; rfl
    rw [this]; simp [firstF, thenI]
  | f + 1, p, h1, h2 => by
    have hz : (a ++ b).size = a.size + b.size := by simp
    by_cases h : p < a.size
    · have hd := decode_app1 a b he p h
      have hw : charW (a ++ b) p = charW a p := by unfold charW; rw [hd]
      have hk : charK (a ++ b) p = charK a p := by unfold charK; rw [hd]
      have hwl := charW_le a p h
      have hwp := charW_pos a p
      by_cases e : charK a p = 1
      · rw [firstF_go a f p h e, firstF_go (a ++ b) f p (by omega) (by rw [hk]; exact e), hw, firstF_app a b he f _ hwl (by omega)]
      · rw [firstF_stop a f p h e, firstF_stop (a ++ b) f p (by omega) (by rw [hk]; exact e), hk]
        unfold thenI; rw [if_pos (by simp)]
    · obtain rfl : p = a.size := by omega
      have e : firstF (a ++ b) (f + 1) a.size = shiftI a.size (firstF b (f + 1) 0) := firstF_app2 a b (f + 1) 0
      rw [e, firstF_end a _ _ (by omega), firstF_fuel b (f + 1) b.size 0 (by omega) (by omega)]
      unfold thenI
      rw [if_neg (by simp)]
      rfl
theorem first_app (a b : ByteArray) (he : Ends a) : firstI (a ++ b) = thenI a.size (firstI a) (firstI b) := by
  have hz : (a ++ b).size = a.size + b.size := by simp
  have h := firstF_app a b he (a ++ b).size 0 (by omega) (by omega)
  rw [firstF_fuel a (a ++ b).size a.size 0 (by omega) (by omega)] at h
  exact h
theorem firstI_range (s : ByteArray) : ∀ f p, (firstF s f p = (-1, 1)) ∨ (0 ≤ (firstF s f p).1 ∧ (firstF s f p).1 < s.size)
  | 0, _ => .inl rfl
  | f + 1, p => by
    by_cases h : p < s.size
    · simp only [firstF, if_pos h]
      split
      · exact firstI_range s f _
      · right; simp; omega
    · left; exact firstF_end s _ p h
theorem cntF_le (s : ByteArray) (k : Int) : ∀ f p, cntF s k f p ≤ s.size - p
  | 0, _ => Nat.zero_le _
  | f + 1, p => by
    by_cases h : p < s.size
    · have := charW_pos s p
      have := charW_le s p h
      have ih := cntF_le s k f (p + charW s p)
      rw [cntF_go s k f p h]; split <;> omega
    · rw [cntF_end _ _ _ _ h]; omega
theorem cntI_le (s : ByteArray) (k : Int) : cntI s k ≤ s.size := by have := cntF_le s k s.size 0; unfold cntI; omega
theorem unitsF_le (s : ByteArray) : ∀ f p, unitsF s f p ≤ 2 * (s.size - p)
  | 0, _ => Nat.zero_le _
  | f + 1, p => by
    by_cases h : p < s.size
    · have := charW_pos s p
      have := charW_le s p h
      have ih := unitsF_le s f (p + charW s p)
      simp only [unitsF, if_pos h]; split <;> omega
    · rw [unitsF_end _ _ _ h]; omega
theorem unitsI_le (s : ByteArray) : unitsI s ≤ 2 * s.size := by have := unitsF_le s s.size 0; unfold unitsI; omega
theorem ends_slash (s : ByteArray) : Ends (s ++ (⟨#[47]⟩ : ByteArray)) := by
  have hz : (s ++ (⟨#[47]⟩ : ByteArray)).size = s.size + 1 := by rw [ByteArray.size_append]; rfl
  refine ⟨by omega, ?_⟩
  rw [hz, Nat.add_sub_cancel]
  have h : (s ++ (⟨#[47]⟩ : ByteArray)).get! s.size = (⟨#[47]⟩ : ByteArray).get! 0 := get_app2 s ⟨#[47]⟩ 0
  rw [h]; rfl
end Go.Proofs.YtenhdbjkpopfmaaDoor

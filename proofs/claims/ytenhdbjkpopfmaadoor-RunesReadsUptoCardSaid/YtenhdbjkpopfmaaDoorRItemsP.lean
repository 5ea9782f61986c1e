/- Plain facts on the reading of a shown text: what its items mean. No program in sight. -/
import Derived.Test.YtenhdbjkpopfmaaDoorRShowP
import Derived.Lib.Small
import Derived.Lib.RuneCountTail
namespace Go.Proofs.YtenhdbjkpopfmaaDoor

/-- the value of a hexadecimal digit; -1: none -/
def digV (c : UInt8) : Int := if 48 ≤ c.toNat ∧ c.toNat ≤ 57 then (c.toNat : Int) - 48 else if 97 ≤ c.toNat ∧ c.toNat ≤ 102 then (c.toNat : Int) - 87 else -1
theorem digV_range (c : UInt8) : -1 ≤ digV c ∧ digV c ≤ 15 := by
  unfold digV
  repeat' split
  all_goals omega
/-- what the items mean from a place on, behind acc; the place that is wrong, -1: none -/
def itF (s : ByteArray) : Nat → Nat → List UInt8 → List UInt8 × Int
  | 0, _, _ => ([], (s.size : Int))
  | f + 1, i, acc =>
    if i < s.size then
      if s.get! i = 34 then (if i + 1 < s.size then ([], (i : Int) + 1) else (acc, -1))
      else if s.get! i = 92 then
        if i + 1 < s.size ∧ (s.get! (i + 1) = 34 ∨ s.get! (i + 1) = 92) then itF s f (i + 2) (acc ++ [s.get! (i + 1)])
        else if i + 1 < s.size ∧ s.get! (i + 1) ≠ 120 then ([], (i : Int) + 1)
        else if ¬ i + 2 < s.size then ([], (s.size : Int))
        else if digV (s.get! (i + 2)) < 0 then ([], (i : Int) + 2)
        else if ¬ i + 3 < s.size then ([], (s.size : Int))
        else if digV (s.get! (i + 3)) < 0 then ([], (i : Int) + 3)
        else itF s f (i + 4) (acc ++ [(16 * digV (s.get! (i + 2)) + digV (s.get! (i + 3))).toNat.toUInt8])
      else if charK s i = 1 then itF s f (i + charW s i) (acc ++ bytesAt s i) else ([], (i : Int))
    else ([], (s.size : Int))
def itemsI (s : ByteArray) : List UInt8 × Int := if s.size = 0 ∨ s.get! 0 ≠ 34 then ([], 0) else itF s s.size 1 []
theorem itF_end (s : ByteArray) (f i : Nat) (acc : List UInt8) (h : ¬ i < s.size) : itF s f i acc = ([], (s.size : Int)) := by cases f <;> simp [itF, h]
theorem itF_quote (s : ByteArray) (f i : Nat) (acc : List UInt8) (h : i < s.size) (c : s.get! i = 34) : itF s (f + 1) i acc = if i + 1 < s.size then ([], (i : Int) + 1) else (acc, -1) := by simp [itF, h, c]
theorem itF_mark (s : ByteArray) (f i : Nat) (acc : List UInt8) (h : i < s.size) (c : s.get! i = 92) (h1 : i + 1 < s.size) (d : s.get! (i + 1) = 34 ∨ s.get! (i + 1) = 92) :
    itF s (f + 1) i acc = itF s f (i + 2) (acc ++ [s.get! (i + 1)]) := by
  rw [itF, if_pos h, if_neg (by rw [c]; decide), if_pos c, if_pos ⟨h1, d⟩]
theorem itF_bad (s : ByteArray) (f i : Nat) (acc : List UInt8) (h : i < s.size) (c : s.get! i = 92) (h1 : i + 1 < s.size) (d : ¬ (s.get! (i + 1) = 34 ∨ s.get! (i + 1) = 92)) (x : s.get! (i + 1) ≠ 120) :
    itF s (f + 1) i acc = ([], (i : Int) + 1) := by
  rw [itF, if_pos h, if_neg (by rw [c]; decide), if_pos c, if_neg (fun hh => d hh.2), if_pos ⟨h1, x⟩]
theorem itF_hex (s : ByteArray) (f i : Nat) (acc : List UInt8) (h : i < s.size) (c : s.get! i = 92) (x : i + 1 < s.size → s.get! (i + 1) = 120) :
    itF s (f + 1) i acc = if ¬ i + 2 < s.size then ([], (s.size : Int)) else if digV (s.get! (i + 2)) < 0 then ([], (i : Int) + 2) else if ¬ i + 3 < s.size then ([], (s.size : Int)) else if digV (s.get! (i + 3)) < 0 then ([], (i : Int) + 3)
        else itF s f (i + 4) (acc ++ [(16 * digV (s.get! (i + 2)) + digV (s.get! (i + 3))).toNat.toUInt8]) := by
  have e1 : ¬ (i + 1 < s.size ∧ (s.get! (i + 1) = 34 ∨ s.get! (i + 1) = 92)) := by
    rintro ⟨h1, d⟩
    rw [x h1] at d
    rcases d with d | d <;> exact absurd d (by decide)
  have e2 : ¬ (i + 1 < s.size ∧ s.get! (i + 1) ≠ 120) := fun hh => hh.2 (x hh.1)
  rw [itF, if_pos h, if_neg (by rw [c]; decide), if_pos c, if_neg e1, if_neg e2]
theorem itF_char (s : ByteArray) (f i : Nat) (acc : List UInt8) (h : i < s.size) (c : s.get! i ≠ 34) (d : s.get! i ≠ 92) :
    itF s (f + 1) i acc = if charK s i = 1 then itF s f (i + charW s i) (acc ++ bytesAt s i) else ([], (i : Int)) := by
  rw [itF, if_pos h, if_neg c, if_neg d]
theorem itF_range (s : ByteArray) : ∀ (f i : Nat) (acc : List UInt8), i ≤ s.size → -1 ≤ (itF s f i acc).2 ∧ (itF s f i acc).2 ≤ s.size
  | 0, _, _, _ => by simp [itF]; try omega
  | f + 1, i, acc, hi => by
    rw [itF]
    split
    · rename_i h
      have hw := charW_le s i h
      split
      · split <;> simp <;> try omega
      · split
        · split
          · rename_i h1; exact itF_range s f _ _ (by omega)
          · split
            · simp; try omega
            · split
              · simp; try omega
              · split
                · simp; try omega
                · split
                  · simp; try omega
                  · split
                    · simp; try omega
                    · exact itF_range s f _ _ (by omega)
        · split
          · exact itF_range s f _ _ (by omega)
          · simp; try omega
    · simp; try omega
theorem itF_length (s : ByteArray) : ∀ (f i : Nat) (acc : List UInt8), acc.length ≤ i → i ≤ s.size → (itF s f i acc).1.length ≤ s.size
  | 0, _, _, _, _ => by simp [itF]
  | f + 1, i, acc, ha, hi => by
    rw [itF]
    split
    · rename_i h
      have hw := charW_le s i h
      have hb := bytesAt_length s i h
      split
      · split
        · simp
        · simp; try omega
      · split
        · split
          · rename_i h1; exact itF_length s f _ _ (by simp; omega) (by omega)
          · split
            · simp
            · split
              · simp
              · split
                · simp
                · split
                  · simp
                  · split
                    · simp
                    · exact itF_length s f _ _ (by simp; omega) (by omega)
        · split
          · exact itF_length s f _ _ (by rw [List.length_append]; omega) (by omega)
          · simp
    · simp
theorem itemsI_length (s : ByteArray) : (itemsI s).1.length ≤ s.size := by
  unfold itemsI; split
  · simp
  · rename_i h; exact itF_length s _ 1 _ (by simp) (by omega)
theorem itemsI_range (s : ByteArray) : -1 ≤ (itemsI s).2 ∧ (itemsI s).2 ≤ s.size := by
  unfold itemsI; split
  · simp
  · rename_i h; exact itF_range s _ 1 _ (by omega)

theorem showF_length (s : ByteArray) : ∀ f p, p ≤ s.size → (showF s f p).length ≤ 4 * (s.size - p)
  | 0, _, _ => by simp [showF]
  | f + 1, p, hp => by
    by_cases h : p < s.size
    · rw [showF_go s f p h, List.length_append]
      have h1 := showItem_length s p h
      have h2 := charW_le s p h
      have h3 := showF_length s f (p + charW s p) (by omega)
      omega
    · rw [showF_end s (f + 1) p h]; simp
theorem showL_size (s : ByteArray) : (⟨(showL s).toArray⟩ : ByteArray).size ≤ 4 * s.size + 2 := by
  show (showL s).toArray.size ≤ _
  rw [List.size_toArray]
  have := showF_length s s.size 0 (by omega)
  unfold showL; simp; omega
/-- the first place at which two texts differ (the length of the shorter one, if it ends ahead), from a place on; -1: none -/
def diffF (a b : ByteArray) : Nat → Nat → Int
  | 0, _ => -1
  | f + 1, i => if i < a.size ∨ i < b.size then (if i < a.size ∧ i < b.size ∧ a.get! i = b.get! i then diffF a b f (i + 1) else (i : Int)) else -1
def diffI (a b : ByteArray) : Int := diffF a b (a.size + b.size) 0
theorem diffF_range (a b : ByteArray) : ∀ f i, -1 ≤ diffF a b f i
  | 0, _ => by simp [diffF]
  | f + 1, i => by
    rw [diffF]; split
    · split
      · exact diffF_range a b f _
      · omega
    · omega
theorem diffF_end (a b : ByteArray) (f i : Nat) (h : ¬ (i < a.size ∨ i < b.size)) : diffF a b f i = -1 := by cases f <;> simp [diffF, h]
theorem diffF_go (a b : ByteArray) (f i : Nat) (h1 : i < a.size) (h2 : i < b.size) (e : a.get! i = b.get! i) : diffF a b (f + 1) i = diffF a b f (i + 1) := by simp [diffF, h1, h2, e]
theorem diffF_stop (a b : ByteArray) (f i : Nat) (h : i < a.size ∨ i < b.size) (e : ¬ (i < a.size ∧ i < b.size ∧ a.get! i = b.get! i)) : diffF a b (f + 1) i = i := by rw [diffF, if_pos h, if_neg e]

/-- What Read answers: the text, the place, the error. -/
def readI (s : ByteArray) : ByteArray × Int × Int :=
  if 0 ≤ (itemsI s).2 then (⟨#[]⟩, (itemsI s).2, 1)
  else if 0 ≤ diffI ⟨(showL ⟨(itemsI s).1.toArray⟩).toArray⟩ s then (⟨#[]⟩, diffI ⟨(showL ⟨(itemsI s).1.toArray⟩).toArray⟩ s, 1)
  else (⟨(itemsI s).1.toArray⟩, 0, 0)
end Go.Proofs.YtenhdbjkpopfmaaDoor

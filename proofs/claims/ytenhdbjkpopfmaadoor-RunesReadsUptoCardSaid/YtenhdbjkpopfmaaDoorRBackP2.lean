/- Plain facts: Read of Show, Show of Read, what a shown text is made of. No program in sight; no condition. -/
import Derived.Test.YtenhdbjkpopfmaaDoorRBackP
import Derived.Test.YtenhdbjkpopfmaaDoorRFirst
namespace Go.Proofs.YtenhdbjkpopfmaaDoor

theorem diffF_self (a : ByteArray) : ∀ f i, diffF a a f i = -1
  | 0, _ => rfl
  | f + 1, i => by
    rw [diffF]; split
    · rename_i h
      have h' : i < a.size := by omega
      rw [if_pos ⟨h', h', rfl⟩]; exact diffF_self a f (i + 1)
    · rfl
theorem diffI_self (a : ByteArray) : diffI a a = -1 := diffF_self a _ _
theorem diffF_same (a b : ByteArray) : ∀ f i, diffF a b f i < 0 → a.size + b.size ≤ i + f → ∀ k, i ≤ k → (k < a.size ∨ k < b.size) → k < a.size ∧ k < b.size ∧ a.get! k = b.get! k
  | 0, i, _, hf, k, hk, hh => by omega
  | f + 1, i, h, hf, k, hk, hh => by
    rw [diffF] at h
    split at h
    · split at h
      · rename_i h1 h2
        by_cases e : k = i
        · subst e; exact h2
        · exact diffF_same a b f (i + 1) h (by omega) k (by omega) hh
      · omega
    · omega
theorem diffI_same (a b : ByteArray) (h : diffI a b < 0) : a = b := by
  have hs := diffF_same a b _ 0 h (by omega)
  have hz : a.size = b.size := by
    rcases Nat.lt_trichotomy a.size b.size with h1 | h1 | h1
    · have := hs a.size (by omega) (.inr h1); omega
    · exact h1
    · have := hs b.size (by omega) (.inl h1); omega
  apply ByteArray.ext
  apply Array.ext
  · exact hz
  · intro k h1 h2
    have := (hs k (by omega) (.inl h1)).2.2
    rw [get_eq a k h1, get_eq b k h2] at this
    exact this

/-- what is shown, is read -/
theorem items_show (s : ByteArray) : itemsI ⟨(showL s).toArray⟩ = (s.data.toList, -1) := by
  have hl : (⟨(showL s).toArray⟩ : ByteArray).data.toList = [34] ++ (showF s s.size 0 ++ [34]) := by simp [showL]
  have hd : (⟨(showL s).toArray⟩ : ByteArray).data.toList.drop 0 = [34] ++ (showF s s.size 0 ++ [34]) := hl
  have e0 := drop_get hd 0 (by simp)
  have h1 := drop_add hd
  simp at e0 h1
  unfold itemsI
  rw [if_neg (by rintro (h | h); omega; exact h e0.2)]
  have := itF_show s ⟨(showL s).toArray⟩ s.size 0 1 (⟨(showL s).toArray⟩ : ByteArray).size (by simpa using h1) (by omega) (by omega) (by rw [List.length_drop]; show (showL s).toArray.toList.length - 1 ≤ (showL s).toArray.size; simp)
  simpa using this
theorem read_show (s : ByteArray) : readI ⟨(showL s).toArray⟩ = (s, 0, 0) := by
  have hs : (⟨s.data.toList.toArray⟩ : ByteArray) = s := by apply ByteArray.ext; simp
  unfold readI
  rw [items_show]
  simp only [hs]
  rw [if_neg (by omega), diffI_self, if_neg (by omega)]
/-- what is read, is shown as it was -/
theorem show_read (t : ByteArray) (h : (readI t).2.2 = 0) : (⟨(showL (readI t).1).toArray⟩ : ByteArray) = t := by
  unfold readI at h ⊢
  split at h
  · simp at h
  · split at h
    · simp at h
    · rename_i h1 h2
      rw [if_neg h1, if_neg h2]
      have h3 : diffI ⟨(showL ⟨(itemsI t).1.toArray⟩).toArray⟩ t < 0 := by omega
      exact diffI_same _ _ h3
theorem readI_err (t : ByteArray) : (readI t).2.2 = 0 ∨ (readI t).2.2 = 1 := by
  unfold readI; split
  · right; rfl
  · split
    · right; rfl
    · left; rfl
theorem showL_inj {s t : ByteArray} (h : (⟨(showL s).toArray⟩ : ByteArray) = ⟨(showL t).toArray⟩) : s = t := by
  have := congrArg readI h
  rw [read_show, read_show] at this
  exact congrArg Prod.fst this

theorem readI_size (t : ByteArray) : (readI t).1.size ≤ t.size := by
  unfold readI; split
  · show (#[] : Array UInt8).size ≤ _; simp
  · split
    · show (#[] : Array UInt8).size ≤ _; simp
    · show (itemsI t).1.toArray.size ≤ _; rw [List.size_toArray]; exact itemsI_length t
/-- a character of ASCII that is Plain -/
theorem ascii_char (T : ByteArray) (i : Nat) (c : UInt8) (_h : i < T.size) (e : T.get! i = c) (hc : c.toNat < 128) (hk : kindI (c.toNat : Int) = 1) : charK T i = 1 ∧ charW T i = 1 := by
  have hd : Utf8.decode T i = (c.toNat, 1) := by rw [Lib.decode_at, e]; unfold Lib.decodeN; rw [if_pos hc]
  unfold charK charW; rw [hd]
  refine ⟨?_, rfl⟩
  rw [if_neg (by intro hh; simp at hh; omega)]
  exact hk
theorem first_skip (T : ByteArray) (i f : Nat) (c : UInt8) (h : i < T.size) (e : T.get! i = c) (hc : c.toNat < 128) (hk : kindI (c.toNat : Int) = 1) : firstF T (f + 1) i = firstF T f (i + 1) := by
  obtain ⟨h1, h2⟩ := ascii_char T i c h e hc hk
  rw [firstF_go T f i h h1, h2]
theorem hexd_plain : ∀ n : Fin 16, (hexd n.val).toNat < 128 ∧ kindI ((hexd n.val).toNat : Int) = 1 := by decide +kernel
theorem hexd_plain' (n : Nat) (h : n < 16) : (hexd n).toNat < 128 ∧ kindI ((hexd n).toNat : Int) = 1 := hexd_plain ⟨n, h⟩
theorem first_esc (T : ByteArray) : ∀ (l : List UInt8) (i : Nat) (rest : List UInt8) (f : Nat), T.data.toList.drop i = l.flatMap escB ++ rest → 4 * l.length ≤ f → firstF T f i = firstF T (f - 4 * l.length) (i + 4 * l.length)
  | [], i, rest, f, _, _ => by simp
  | c :: l, i, rest, f, h, hf => by
    obtain ⟨g, rfl⟩ : ∃ g, f = g + 1 + 1 + 1 + 1 := ⟨f - 4, by simp at hf; omega⟩
    have h' : T.data.toList.drop i = [92, 120, hexd (c.toNat / 16), hexd (c.toNat % 16)] ++ (l.flatMap escB ++ rest) := by rw [h]; simp [escB]
    have hlt := UInt8.toNat_lt c
    have e0 := drop_get h' 0 (by simp)
    have e1 := drop_get h' 1 (by simp)
    have e2 := drop_get h' 2 (by simp)
    have e3 := drop_get h' 3 (by simp)
    simp at e0 e1 e2 e3
    have hd := drop_add h'
    have x2 := hexd_plain' (c.toNat / 16) (by omega)
    have x3 := hexd_plain' (c.toNat % 16) (by omega)
    rw [first_skip T i _ 92 e0.1 e0.2 (by decide) (by decide +kernel), first_skip T (i + 1) _ 120 e1.1 e1.2 (by decide) (by decide +kernel),
      first_skip T (i + 1 + 1) _ _ e2.1 e2.2 x2.1 x2.2, first_skip T (i + 1 + 1 + 1) _ _ e3.1 e3.2 x3.1 x3.2]
    rw [show i + 1 + 1 + 1 + 1 = i + [92, 120, hexd (c.toNat / 16), hexd (c.toNat % 16)].length from by simp, first_esc T l _ rest g hd (by simp at hf; omega)]
    simp only [List.length_cons, List.length_nil]
    congr 1 <;> omega
theorem first_show (s T : ByteArray) : ∀ (g p i f : Nat), T.data.toList.drop i = showF s g p ++ [34] → s.size ≤ p + g → p ≤ s.size → T.size ≤ i + f → firstF T f i = (-1, 1)
  | g, p, i, f, h, hg, hp, hf => by
    have hTl : T.data.toList.length = T.size := by simp
    by_cases hlt : p < s.size
    · obtain ⟨g, rfl⟩ : ∃ k, g = k + 1 := ⟨g - 1, by omega⟩
      rw [showF_go s g p hlt, List.append_assoc] at h
      have hw := charW_pos s p
      have hwl := charW_le s p hlt
      have hbl := bytesAt_length s p hlt
      have hlen : T.size - i = (showItem s p).length + ((showF s g (p + charW s p)).length + 1) := by rw [← hTl, ← List.length_drop, h]; simp
      have hd := drop_add h
      have hsz := drop_size h (by simp)
      by_cases hq : charR s p = 34 ∨ charR s p = 92
      · have hI : showItem s p = [92, s.get! p] := by unfold showItem; rw [if_pos hq]
        have hc : s.get! p = 34 ∨ s.get! p = 92 := by
          rcases hq with e | e
          · left; have := (charR_ascii s p 34 (by omega) e).2.1; apply UInt8.toNat_inj.1; show _ = 34; omega
          · right; have := (charR_ascii s p 92 (by omega) e).2.1; apply UInt8.toNat_inj.1; show _ = 92; omega
        rw [hI] at h hd hlen
        have e0 := drop_get h 0 (by simp)
        have e1 := drop_get h 1 (by simp)
        simp at e0 e1 hlen
        obtain ⟨f, rfl⟩ : ∃ k, f = k + 1 + 1 := ⟨f - 2, by omega⟩
        rw [first_skip T i _ 92 e0.1 e0.2 (by decide) (by decide +kernel)]
        have h2 : firstF T (f + 1) (i + 1) = firstF T f (i + 1 + 1) := by
          rcases hc with c | c
          · exact first_skip T (i + 1) f 34 e1.1 (by rw [e1.2, c]) (by decide) (by decide +kernel)
          · exact first_skip T (i + 1) f 92 e1.1 (by rw [e1.2, c]) (by decide) (by decide +kernel)
        rw [h2]
        exact first_show s T g (p + charW s p) (i + 1 + 1) f hd (by omega) (by omega) (by omega)
      · by_cases hk : charK s p = 1
        · have hI : showItem s p = bytesAt s p := by unfold showItem; rw [if_neg hq, if_pos hk]
          rw [hI] at h hd hlen hsz
          have hsame : Utf8.decode T i = Utf8.decode s p := by
            refine char_same (by omega) ?_ ?_
            · simp at hsz; omega
            · intro k hk'
              have e := drop_get h k (by simp; omega)
              rw [e.2, List.getElem_append_left (by omega)]
              have hb := List.getElem?_eq_getElem (l := bytesAt s p) (i := k) (by omega)
              rw [bytesAt_get' s p k hk' (by omega)] at hb
              rw [get_eq s (p + k) (by omega)]
              exact (Option.some.inj hb).symm
          have hK : charK T i = 1 := by unfold charK at *; rw [hsame]; exact hk
          have hWW : charW T i = charW s p := by unfold charW; rw [hsame]
          obtain ⟨f, rfl⟩ : ∃ k, f = k + 1 := ⟨f - 1, by omega⟩
          rw [firstF_go T f i (by omega) hK, hWW]
          rw [hbl] at hd
          exact first_show s T g (p + charW s p) (i + charW s p) f hd (by omega) (by omega) (by omega)
        · have hI : showItem s p = (bytesAt s p).flatMap escB := by unfold showItem; rw [if_neg hq, if_neg hk]
          rw [hI] at h hd hlen
          rw [flatMap_escB_length, hbl] at hd hlen
          rw [first_esc T (bytesAt s p) i _ f h (by omega), hbl]
          exact first_show s T g (p + charW s p) (i + 4 * charW s p) (f - 4 * charW s p) hd (by omega) (by omega) (by omega)
    · rw [showF_end s g p hlt, List.nil_append] at h
      have e0 := drop_get h 0 (by simp)
      have hsz := drop_size h (by simp)
      simp at e0 hsz
      obtain ⟨f, rfl⟩ : ∃ k, f = k + 1 := ⟨f - 1, by omega⟩
      rw [first_skip T i f 34 e0.1 e0.2 (by decide) (by decide +kernel), firstF_end T f (i + 1) (by omega)]
termination_by g => g
theorem firstI_show (s : ByteArray) : firstI ⟨(showL s).toArray⟩ = (-1, 1) := by
  have hl : (⟨(showL s).toArray⟩ : ByteArray).data.toList.drop 0 = [34] ++ (showF s s.size 0 ++ [34]) := by simp [showL]
  have e0 := drop_get hl 0 (by simp)
  have h1 := drop_add hl
  simp at e0 h1
  unfold firstI
  obtain ⟨f, hf⟩ : ∃ f, (⟨(showL s).toArray⟩ : ByteArray).size = f + 1 := ⟨(⟨(showL s).toArray⟩ : ByteArray).size - 1, by omega⟩
  rw [hf, first_skip _ 0 f 34 e0.1 e0.2 (by decide) (by decide +kernel)]
  exact first_show s _ s.size 0 1 f (by simpa using h1) (by omega) (by omega) (by omega)
theorem showF_length_ge (s : ByteArray) : ∀ f p, s.size ≤ p + f → s.size - p ≤ (showF s f p).length
  | 0, _, h => by omega
  | f + 1, p, h => by
    by_cases hlt : p < s.size
    · rw [showF_go s f p hlt, List.length_append]
      have hw := charW_pos s p
      have ih := showF_length_ge s f (p + charW s p) (by omega)
      have hi : charW s p ≤ (showItem s p).length := by
        have hb := bytesAt_length s p hlt
        unfold showItem; split
        · rename_i hq
          have : charW s p = 1 := by rcases hq with e | e <;> exact (charR_ascii s p _ (by omega) e).1
          simp; omega
        · split
          · omega
          · rw [flatMap_escB_length]; omega
      omega
    · omega
theorem showL_size_ge (s : ByteArray) : s.size + 2 ≤ (⟨(showL s).toArray⟩ : ByteArray).size := by
  show _ ≤ (showL s).toArray.size
  rw [List.size_toArray]
  have := showF_length_ge s s.size 0 (by omega)
  unfold showL; simp; omega
end Go.Proofs.YtenhdbjkpopfmaaDoor

/- Plain facts: what is shown is read again. No program in sight; no condition. -/
import Derived.Test.YtenhdbjkpopfmaaDoorRItemsP
namespace Go.Proofs.YtenhdbjkpopfmaaDoor

/-- a character that stands rightly is the same whatever stands behind its bytes -/
theorem decodeN_same (n n' b0 b1 b2 b3 c1 c2 c3 : Nat) (hv : ¬ ((Lib.decodeN n b0 b1 b2 b3).1 = 65533 ∧ (Lib.decodeN n b0 b1 b2 b3).2 = 1)) (hw : (Lib.decodeN n b0 b1 b2 b3).2 ≤ n')
    (e1 : 1 < (Lib.decodeN n b0 b1 b2 b3).2 → b1 = c1) (e2 : 2 < (Lib.decodeN n b0 b1 b2 b3).2 → b2 = c2) (e3 : 3 < (Lib.decodeN n b0 b1 b2 b3).2 → b3 = c3) :
    Lib.decodeN n' b0 c1 c2 c3 = Lib.decodeN n b0 b1 b2 b3 := by
  unfold Lib.decodeN at hv hw e1 e2 e3 ⊢
  by_cases h1 : b0 < 128
  · simp [h1]
  · by_cases h2 : b0 / 32 = 6 ∧ (1 < n ∧ b1 / 64 = 2)
    · simp only [if_neg h1, if_pos h2] at *
      by_cases h3 : b0 % 32 * 64 + b1 % 64 ≥ 128
      · simp only [if_pos h3] at *
        obtain rfl := e1 (by omega)
        rw [if_pos ⟨h2.1, by omega, h2.2.2⟩, if_pos h3]
      · simp [if_neg h3] at hv
    · by_cases h3 : b0 / 16 = 14 ∧ (1 < n ∧ b1 / 64 = 2) ∧ (2 < n ∧ b2 / 64 = 2)
      · simp only [if_neg h1, if_neg h2, if_pos h3] at *
        split at hv
        · rename_i h4
          simp only [if_pos h4] at *
          obtain rfl := e1 (by omega)
          obtain rfl := e2 (by omega)
          rw [if_neg (by omega), if_pos ⟨h3.1, ⟨by omega, h3.2.1.2⟩, by omega, h3.2.2.2⟩, if_pos h4]
        · simp at hv
      · by_cases h4 : b0 / 8 = 30 ∧ (1 < n ∧ b1 / 64 = 2) ∧ (2 < n ∧ b2 / 64 = 2) ∧ (3 < n ∧ b3 / 64 = 2)
        · simp only [if_neg h1, if_neg h2, if_neg h3, if_pos h4] at *
          split at hv
          · rename_i h5
            simp only [if_pos h5] at *
            obtain rfl := e1 (by omega)
            obtain rfl := e2 (by omega)
            obtain rfl := e3 (by omega)
            rw [if_neg (by omega), if_neg (by omega), if_pos ⟨h4.1, ⟨by omega, h4.2.1.2⟩, ⟨by omega, h4.2.2.1.2⟩, by omega, h4.2.2.2.2⟩, if_pos h5]
          · simp at hv
        · simp only [if_neg h1, if_neg h2, if_neg h3, if_neg h4] at hv
          simp at hv

theorem char_same {s T : ByteArray} {p i : Nat} (hk : charK s p ≠ 8) (hi : i + charW s p ≤ T.size) (h : ∀ k, k < charW s p → T.get! (i + k) = s.get! (p + k)) : Utf8.decode T i = Utf8.decode s p := by
  have hv : ¬ ((Utf8.decode s p).1 = 65533 ∧ (Utf8.decode s p).2 = 1) := fun hh => hk (by unfold charK; rw [if_pos hh])
  have hp := charW_pos s p
  unfold charW at *
  have h0 := h 0 (by omega)
  rw [Nat.add_zero, Nat.add_zero] at h0
  rw [Lib.decode_at s p] at hv hi h hp
  rw [Lib.decode_at T i, Lib.decode_at s p, h0]
  refine decodeN_same _ _ _ _ _ _ _ _ _ hv (by omega) (fun hh => ?_) (fun hh => ?_) (fun hh => ?_)
  · rw [h 1 hh]
  · rw [h 2 hh]
  · rw [h 3 hh]

theorem bytesAt_get' (s : ByteArray) (p j : Nat) (hj : j < charW s p) (h : p + j < s.size) : (bytesAt s p)[j]? = some s[p + j] := by
  have h' : p + j < s.data.toList.length := by simpa using h
  unfold bytesAt
  rw [List.getElem?_take_of_lt hj, List.getElem?_drop, List.getElem?_eq_getElem h']; rfl
theorem bytes_one (s : ByteArray) (p : Nat) (hp : p < s.size) (hw : charW s p = 1) : bytesAt s p = [s.get! p] := by
  unfold bytesAt; rw [hw, List.take_one, List.head?_drop, get_eq s p hp]
  have h' : p < s.data.toList.length := by simpa using hp
  rw [List.getElem?_eq_getElem h']; rfl
theorem ascii_charR (s : ByteArray) (p : Nat) (c : UInt8) (_hp : p < s.size) (h : s.get! p = c) (hc : c.toNat < 128) : charR s p = (c.toNat : Int) := by
  have hd : Utf8.decode s p = (c.toNat, 1) := by
    rw [Lib.decode_at, h]; unfold Lib.decodeN; rw [if_pos hc]
  unfold charR; rw [hd, if_neg (by intro hh; simp at hh; omega)]
theorem drop_get {T : ByteArray} {i : Nat} {l : List UInt8} (h : T.data.toList.drop i = l) (k : Nat) (hk : k < l.length) : i + k < T.size ∧ T.get! (i + k) = l[k] := by
  have hl : i + k < T.data.toList.length := by
    have := congrArg List.length h
    simp at this ⊢; omega
  have hs : i + k < T.size := by simpa using hl
  refine ⟨hs, ?_⟩
  subst h
  rw [get_eq T _ hs, List.getElem_drop]; rfl
theorem drop_add {T : ByteArray} {i : Nat} {a b : List UInt8} (h : T.data.toList.drop i = a ++ b) : T.data.toList.drop (i + a.length) = b := by
  rw [← List.drop_drop, h, List.drop_left]
theorem drop_size {T : ByteArray} {i : Nat} {l : List UInt8} (h : T.data.toList.drop i = l) (hl : l ≠ []) : i + l.length = T.size := by
  have := congrArg List.length h
  have h0 : 0 < l.length := List.length_pos_iff.2 hl
  simp at this
  omega

theorem digV_hexd : ∀ n : Fin 16, digV (hexd n.val) = n.val := by decide +kernel
theorem digV_hexd' (n : Nat) (h : n < 16) : digV (hexd n) = n := digV_hexd ⟨n, h⟩

/-- bytes that were escaped are read again -/
theorem itF_esc (T : ByteArray) : ∀ (l : List UInt8) (i : Nat) (acc rest : List UInt8) (f : Nat), T.data.toList.drop i = l.flatMap escB ++ rest → l.length ≤ f →
    itF T f i acc = itF T (f - l.length) (i + 4 * l.length) (acc ++ l)
  | [], i, acc, rest, f, _, _ => by simp
  | c :: l, i, acc, rest, f, h, hf => by
    obtain ⟨g, rfl⟩ : ∃ g, f = g + 1 := ⟨f - 1, by simp at hf; omega⟩
    have h' : T.data.toList.drop i = [92, 120, hexd (c.toNat / 16), hexd (c.toNat % 16)] ++ (l.flatMap escB ++ rest) := by rw [h]; simp [escB]
    have hlt := UInt8.toNat_lt c
    have e0 := drop_get h' 0 (by simp)
    have e1 := drop_get h' 1 (by simp)
    have e2 := drop_get h' 2 (by simp)
    have e3 := drop_get h' 3 (by simp)
    simp at e0 e1 e2 e3
    have hd := drop_add h'
    rw [itF_hex T g i acc e0.1 e0.2 (fun _ => e1.2), if_neg (by omega), e2.2, e3.2, digV_hexd' _ (by omega), digV_hexd' _ (by omega), if_neg (by omega), if_neg (by omega), if_neg (by omega)]
    have hc : (16 * ((c.toNat / 16 : Nat) : Int) + ((c.toNat % 16 : Nat) : Int)).toNat.toUInt8 = c := by
      have : (16 * ((c.toNat / 16 : Nat) : Int) + ((c.toNat % 16 : Nat) : Int)).toNat = c.toNat := by omega
      rw [this]; simp
    rw [hc, itF_esc T l (i + 4) (acc ++ [c]) rest g hd (by simp at hf; omega)]
    simp only [List.length_cons, List.append_assoc, List.singleton_append]
    congr 1
    · omega
    · omega

theorem bytes_take (s : ByteArray) (p : Nat) : s.data.toList.take p ++ bytesAt s p = s.data.toList.take (p + charW s p) := by
  unfold bytesAt; rw [List.take_add]

/-- what is shown of a text from a place on is read again -/
theorem itF_show (s T : ByteArray) : ∀ (g p i f : Nat), T.data.toList.drop i = showF s g p ++ [34] → s.size ≤ p + g → p ≤ s.size → (T.data.toList.drop i).length ≤ f →
    itF T f i (s.data.toList.take p) = (s.data.toList, -1)
  | g, p, i, f, h, hg, hp, hf => by
    have hTl : T.data.toList.length = T.size := by simp
    rw [List.length_drop, hTl] at hf
    by_cases hlt : p < s.size
    · obtain ⟨g, rfl⟩ : ∃ k, g = k + 1 := ⟨g - 1, by omega⟩
      rw [showF_go s g p hlt, List.append_assoc] at h
      have hw := charW_pos s p
      have hwl := charW_le s p hlt
      have hbl := bytesAt_length s p hlt
      have hlen : T.size - i = (showItem s p).length + ((showF s g (p + charW s p)).length + 1) := by rw [← hTl, ← List.length_drop, h]; simp
      have hd := drop_add h
      have hsz := drop_size h (by simp)
      by_cases hq : charR s p = 34 ∨ charR s p = 92
      · have hI : showItem s p = [92, s.get! p] := by unfold showItem; rw [if_pos hq]
        have hW : charW s p = 1 := by rcases hq with e | e <;> exact (charR_ascii s p _ (by omega) e).1
        have hc : s.get! p = 34 ∨ s.get! p = 92 := by
          rcases hq with e | e
          · left; have := (charR_ascii s p 34 (by omega) e).2.1; apply UInt8.toNat_inj.1; show _ = 34; omega
          · right; have := (charR_ascii s p 92 (by omega) e).2.1; apply UInt8.toNat_inj.1; show _ = 92; omega
        rw [hI] at h hd hlen
        have e0 := drop_get h 0 (by simp)
        have e1 := drop_get h 1 (by simp)
        simp at e0 e1 hlen
        obtain ⟨f, rfl⟩ : ∃ k, f = k + 1 := ⟨f - 1, by omega⟩
        rw [itF_mark T f i _ e0.1 e0.2 e1.1 (by rw [e1.2]; exact hc), e1.2]
        have ht : s.data.toList.take p ++ [s.get! p] = s.data.toList.take (p + charW s p) := by
          rw [← bytes_take]; congr 1
          rw [bytes_one s p hlt hW]
        rw [ht]
        exact itF_show s T g (p + charW s p) (i + 2) f hd (by omega) (by omega) (by rw [List.length_drop, hTl]; omega)
      · by_cases hk : charK s p = 1
        · have hI : showItem s p = bytesAt s p := by unfold showItem; rw [if_neg hq, if_pos hk]
          rw [hI] at h hd hlen hsz
          have hsame : Utf8.decode T i = Utf8.decode s p := by
            refine char_same (by omega) ?_ ?_
            · simp at hsz; omega
            · intro k hk'
              have e := drop_get h k (by simp; omega)
              rw [e.2, List.getElem_append_left (by omega)]
              have hb := List.getElem?_eq_getElem (l := bytesAt s p) (i := k) (by omega)
              rw [bytesAt_get' s p k hk' (by omega)] at hb
              rw [get_eq s (p + k) (by omega)]
              exact (Option.some.inj hb).symm
          have hK : charK T i = 1 := by unfold charK at *; rw [hsame]; exact hk
          have hWW : charW T i = charW s p := by unfold charW; rw [hsame]
          have hR : charR T i = charR s p := by unfold charR; rw [hsame]
          have hB : bytesAt T i = bytesAt s p := by
            unfold bytesAt at h ⊢; rw [h, hWW, List.take_left' (by have := hbl; unfold bytesAt at this; exact this)]
          have e0 := drop_get h 0 (by simp; omega)
          rw [Nat.add_zero] at e0
          obtain ⟨f, rfl⟩ : ∃ k, f = k + 1 := ⟨f - 1, by omega⟩
          have n1 : T.get! i ≠ 34 := fun e => hq (.inl (by rw [← hR]; exact ascii_charR T i 34 e0.1 e (by decide)))
          have n2 : T.get! i ≠ 92 := fun e => hq (.inr (by rw [← hR]; exact ascii_charR T i 92 e0.1 e (by decide)))
          rw [itF_char T f i _ e0.1 n1 n2, if_pos hK, hB, hWW, bytes_take]
          rw [hbl] at hd
          exact itF_show s T g (p + charW s p) (i + charW s p) f hd (by omega) (by omega) (by rw [List.length_drop, hTl]; omega)
        · have hI : showItem s p = (bytesAt s p).flatMap escB := by unfold showItem; rw [if_neg hq, if_neg hk]
          rw [hI] at h hd hlen
          rw [flatMap_escB_length, hbl] at hd hlen
          rw [itF_esc T (bytesAt s p) i _ _ f h (by omega), hbl, bytes_take]
          exact itF_show s T g (p + charW s p) (i + 4 * charW s p) (f - charW s p) hd (by omega) (by omega) (by rw [List.length_drop, hTl]; omega)
    · have hps : p = s.size := by omega
      rw [showF_end s g p hlt, List.nil_append] at h
      have e0 := drop_get h 0 (by simp)
      have hsz := drop_size h (by simp)
      simp at e0 hsz
      obtain ⟨f, rfl⟩ : ∃ k, f = k + 1 := ⟨f - 1, by omega⟩
      rw [itF_quote T f i _ e0.1 e0.2, if_neg (by omega), List.take_of_length_le (by rw [hps]; simp)]
termination_by g => g
end Go.Proofs.YtenhdbjkpopfmaaDoor

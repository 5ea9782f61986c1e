/- Voices in whatever order: the greatest of each voter alone counts. No program; no condition. -/
import Derived.Test.YtbpmmmnphpkdjaaGreatDoorZQueH
namespace Go.Proofs.YtbpmmmnphpkdjaaGreatDoor
/-- one voice: a voter and a zxid -/
def voiceL (last : Int) (ak : List Int) (v : Int × Int) : List Int := if 0 ≤ v.1 ∧ v.1 < ak.length ∧ 0 ≤ v.2 ∧ v.2 ≤ last then ackL ak v.1.toNat v.2 else ak
theorem voiceL_len (last : Int) (ak : List Int) (v : Int × Int) : (voiceL last ak v).length = ak.length := by
  unfold voiceL; split
  · exact ackL_len ..
  · rfl
def gainI (last : Int) (n : Nat) (v : Int × Int) (i : Nat) (x : Int) : Int := if (0 ≤ v.1 ∧ v.1 < n ∧ 0 ≤ v.2 ∧ v.2 ≤ last) ∧ v.1.toNat = i then max x v.2 else x
theorem voiceL_at (last : Int) (ak : List Int) (v : Int × Int) (i : Nat) (hi : i < ak.length) : (voiceL last ak v)[i]! = gainI last ak.length v i ak[i]! := by
  unfold voiceL gainI
  by_cases h : 0 ≤ v.1 ∧ v.1 < ak.length ∧ 0 ≤ v.2 ∧ v.2 ≤ last
  · rw [if_pos h, ackL_at _ _ _ _ hi]
    by_cases h2 : v.1.toNat = i
    · rw [if_pos h2, if_pos ⟨h, h2⟩]
    · rw [if_neg h2, if_neg (fun q => h2 q.2)]
  · rw [if_neg h, if_neg (fun q => h q.1)]
theorem gain_comm (last : Int) (n : Nat) (u v : Int × Int) (i : Nat) (x : Int) : gainI last n u i (gainI last n v i x) = gainI last n v i (gainI last n u i x) := by
  unfold gainI
  by_cases h : (0 ≤ u.1 ∧ u.1 < n ∧ 0 ≤ u.2 ∧ u.2 ≤ last) ∧ u.1.toNat = i
  · by_cases h' : (0 ≤ v.1 ∧ v.1 < n ∧ 0 ≤ v.2 ∧ v.2 ≤ last) ∧ v.1.toNat = i
    · rw [if_pos h, if_pos h', if_pos h', if_pos h]; omega
    · rw [if_pos h, if_neg h', if_neg h', if_pos h]
  · rw [if_neg h, if_neg h]
theorem ext_at {a b : List Int} (hl : a.length = b.length) (h : ∀ i, i < a.length → a[i]! = b[i]!) : a = b := by
  refine List.ext_getElem hl fun i h1 h2 => ?_
  have := h i h1
  rwa [getElem!_pos a i h1, getElem!_pos b i h2] at this
theorem voice_comm (last : Int) (ak : List Int) (u v : Int × Int) : voiceL last (voiceL last ak u) v = voiceL last (voiceL last ak v) u := by
  refine ext_at (by simp only [voiceL_len]) fun i hi => ?_
  simp only [voiceL_len] at hi
  rw [voiceL_at _ _ _ _ (by rw [voiceL_len]; exact hi), voiceL_at _ _ _ _ hi, voiceL_at _ _ _ _ (by rw [voiceL_len]; exact hi), voiceL_at _ _ _ _ hi, voiceL_len, voiceL_len, gain_comm]
def voicesL (last : Int) (ak : List Int) (l : List (Int × Int)) : List Int := l.foldl (voiceL last) ak
theorem voices_push (last : Int) (v : Int × Int) : ∀ (l : List (Int × Int)) (ak : List Int), voicesL last (voiceL last ak v) l = voiceL last (voicesL last ak l) v
  | [], _ => rfl
  | u :: l, ak => by
    show voicesL last (voiceL last (voiceL last ak v) u) l = _
    rw [voice_comm, voices_push last v l (voiceL last ak u)]; rfl
theorem voices_snoc (last : Int) (ak : List Int) (l : List (Int × Int)) (v : Int × Int) : voicesL last ak (l ++ [v]) = voiceL last (voicesL last ak l) v := by simp [voicesL]
theorem voices_reverse (last : Int) (ak : List Int) : ∀ l : List (Int × Int), voicesL last ak l.reverse = voicesL last ak l
  | [] => rfl
  | v :: l => by
    rw [List.reverse_cons, voices_snoc, voices_reverse last ak l]
    exact (voices_push last v l ak).symm
theorem voices_len (last : Int) : ∀ (l : List (Int × Int)) (ak : List Int), (voicesL last ak l).length = ak.length
  | [], _ => rfl
  | v :: l, ak => (voices_len last l (voiceL last ak v)).trans (voiceL_len ..)
/-- what a round of a loop does, forth and back -/
theorem voices_take (last : Int) (ak : List Int) (l : List (Int × Int)) (k : Nat) (hk : k < l.length) : voicesL last ak (l.take (k + 1)) = voiceL last (voicesL last ak (l.take k)) l[k]! := by
  rw [List.take_succ_eq_append_getElem hk, voices_snoc, getElem!_pos l k hk]
theorem voices_drop (last : Int) (ak : List Int) (l : List (Int × Int)) (k : Nat) (hk : k < l.length) : voicesL last ak (l.drop k).reverse = voiceL last (voicesL last ak (l.drop (k + 1)).reverse) l[k]! := by
  rw [List.drop_eq_getElem_cons hk, List.reverse_cons, voices_snoc, getElem!_pos l k hk]
end Go.Proofs.YtbpmmmnphpkdjaaGreatDoor

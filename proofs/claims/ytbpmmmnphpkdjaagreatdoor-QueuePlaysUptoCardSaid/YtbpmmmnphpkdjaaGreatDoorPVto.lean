/- Where a zxid stands in a list: plain. No program; no condition. Arguments that are voters and numbers; liveQuorum; the law QueueQuorums. Condition: bulk at most 2^20. -/
import Derived.Test.YtbpmmmnphpkdjaaGreatDoorPRqA
import Derived.Test.YtbpmmmnphpkdjaaGreatDoorPVtq
import Derived.Test.YtbpmmmnphpkdjaaGreatDoorPQuoG
namespace Go.Proofs.YtbpmmmnphpkdjaaGreatDoor
set_option linter.unusedSimpArgs false
set_option maxRecDepth 100000
set_option maxHeartbeats 20000000
open Go.RowKit Go.MapKept Go.Maps
/-- how many stand ahead of a zxid -/
def fndN (st : QuT) (z : Int) : Nat := ((zxs st.L).takeWhile (fun y => decide (y < z))).length
def fndB (st : QuT) (z : Int) : Bool := decide (fndN st z < st.L.length) && (st.L[fndN st z]!.d.zx == z)
theorem qgB (p : Int → Bool) (zs : List Int) : ∀ k, k ≤ zs.length → (∀ j, j < k → p zs[j]! = true) → (k = zs.length ∨ (k < zs.length ∧ p zs[k]! = false)) → (zs.takeWhile p).length = k := by
 induction zs with
 | nil => intro k hk _ _; have : k = 0 := by simpa using hk
          subst this; rfl
 | cons x r ih =>
  intro k hk hall hend
  cases k with
  | zero =>
   rcases hend with h | ⟨_, h⟩
   ·simp at h
   ·have h' : p x = false := h
    rw [List.takeWhile_cons, h']; rfl
  | succ k =>
   have h0 : p x = true := hall 0 (by omega)
   rw [List.takeWhile_cons, h0]
   have := ih k (by simpa using hk) (fun j hj => by have := hall (j + 1) (by omega); simpa using this) (by
    rcases hend with h | ⟨h1, h2⟩
    ·exact .inl (by simpa using h)
    ·exact .inr ⟨by simpa using h1, by simpa using h2⟩)
   simp [this]
theorem qiD (st : QuT) (z : Int) : fndN st z ≤ st.L.length := by
 have h := (List.takeWhile_sublist (fun y => decide (y < z)) (l := zxs st.L)).length_le
 rw [qcq] at h; exact h
theorem qlD (st : QuT) (z : Int) (k : Nat) (hk : k ≤ st.L.length) (hall : ∀ j, j < k → st.L[j]!.d.zx < z) (hend : k = st.L.length ∨ (k < st.L.length ∧ ¬ st.L[k]!.d.zx < z)) : fndN st z = k :=
 qgB _ _ k (by rw [qcq]; exact hk) (fun j hj => by rw [qdR _ _ (by omega)]; exact decide_eq_true (hall j hj)) (by
  rw [qcq]
  rcases hend with h | ⟨h1, h2⟩
  ·exact .inl h
  ·exact .inr ⟨h1, by rw [qdR _ _ h1]; exact decide_eq_false h2⟩)
/-- what stands ahead is below -/
theorem qjr (st : QuT) (z : Int) (i : Nat) (hi : i < fndN st z) : st.L[i]!.d.zx < z := by
 have hl := qiD st z
 have h : ∀ (zs : List Int) (i : Nat), i < (zs.takeWhile (fun y => decide (y < z))).length → zs[i]! < z := by
  intro zs
  induction zs with
  | nil => intro i hi; simp at hi
  | cons x r ih =>
   intro i hi
   rw [List.takeWhile_cons] at hi
   split at hi
   ·rename_i hx
    cases i with
    | zero => simpa using hx
    | succ i => simpa using ih i (by simpa using hi)
   ·simp at hi
 have := h (zxs st.L) i hi
 rwa [qdR _ _ (by omega)] at this
/-- in a rising list what does not stand ahead is not below -/
theorem qie (st : QuT) (z : Int) (hr : qcU (zxs st.L)) (i : Nat) (h1 : fndN st z ≤ i) (hi : i < st.L.length) : z ≤ st.L[i]!.d.zx := by
 have h : ∀ (zs : List Int), qcU zs → ∀ i, (zs.takeWhile (fun y => decide (y < z))).length ≤ i → i < zs.length → z ≤ zs[i]! := by
  intro zs
  induction zs with
  | nil => intro _ i _ hi; simp at hi
  | cons x r ih =>
   intro hr i h1 hi
   have hp := List.pairwise_cons.1 (show (x :: r).Pairwise (· < ·) from hr)
   rw [List.takeWhile_cons] at h1
   split at h1
   ·cases i with
    | zero => simp at h1
    | succ i => simpa using ih hp.2 i (by simpa using h1) (by simpa using hi)
   ·rename_i hx
    have hx' : ¬ x < z := by simpa using hx
    cases i with
    | zero => simpa using hx'
    | succ i =>
     have hm : r[i]! ∈ r := by rw [getElem!_pos r i (by simpa using hi)]; exact List.getElem_mem _
     have := hp.1 _ hm
     have e : (x :: r)[i + 1]! = r[i]! := by simp
     rw [e]; omega
 have := h (zxs st.L) hr i h1 (by rw [qcq]; exact hi)
 rwa [qdR _ _ hi] at this
open Go.RowKit Go.MapKept Go.Maps Go.WideShapes
section
set_option maxRecDepth 100000
variable {H : Type} {enc : TypeId × Value → H} {w : World} {base : Nat} {spare : Nat → Bool} {held : Bool}
end
end Go.Proofs.YtbpmmmnphpkdjaaGreatDoor

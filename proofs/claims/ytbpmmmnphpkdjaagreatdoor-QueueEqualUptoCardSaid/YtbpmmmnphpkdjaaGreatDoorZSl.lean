/- Words for slices whose elements have several cells: what such a slice reads as, and that it goes on reading so. No condition. -/
import Derived.Below
import Derived.Laws.OwnMore
import Derived.Deep.AppendLies
import Derived.Deep.Draws
import Derived.Lib.Hide
import Derived.WalkKit
import Derived.Laws.StructEq
namespace Go.Proofs.YtbpmmmnphpkdjaaGreatDoor
open Go.RowKit

theorem drewN_below {B : Nat} {a w : World} (h : Below B a w) (q : Nat) : Below B a (w.drewN q) := ⟨h.os, h.tape, h.output, h.size, h.block⟩
theorem drewN_self (w : World) (q : Nat) : Below w.heap.size w (w.drewN q) := drewN_below (Below.refl _ _) q

/-- the slice value '.slice A n _' holds the elements zs, k cells each, and lies below block B -/
def Sl {α : Type} [Inhabited α] (w : World) (B : Nat) (enc : α → List Value) (k : Nat) (A : Option Addr) (n : Nat) (zs : List α) : Prop :=
  zs.length = n ∧ (0 < n → ∃ b off, A = some ⟨b, off, none⟩ ∧ b < B ∧ ∀ j, j < n → ∀ i u, (enc zs[j]!)[i]? = some u → w.cell? ⟨b, off + j * k + i, none⟩ = some u)

section
variable {α : Type} [Inhabited α] {w w' : World} {B B' k n : Nat} {enc : α → List Value} {A : Option Addr} {zs : List α}
theorem Sl.len (h : Sl w B enc k A n zs) : zs.length = n := h.1
theorem Sl.nil_ : Sl w B enc k A 0 ([] : List α) := ⟨rfl, fun h => absurd h (by omega)⟩
theorem Sl.keep (h : Sl w B enc k A n zs) (hk : ∀ p : Addr, p.block < B → w'.cell? p = w.cell? p) : Sl w' B enc k A n zs :=
  ⟨h.1, fun hn => by
    obtain ⟨b, off, e, hb, hc⟩ := h.2 hn
    exact ⟨b, off, e, hb, fun j hj i u hu => (hk _ hb).trans (hc j hj i u hu)⟩⟩
theorem Sl.more (h : Sl w B enc k A n zs) (hB : B ≤ B') : Sl w B' enc k A n zs :=
  ⟨h.1, fun hn => by
    obtain ⟨b, off, e, hb, hc⟩ := h.2 hn
    exact ⟨b, off, e, by omega, hc⟩⟩
theorem Sl.below (h : Sl w B enc k A n zs) (hb : Below B w w') : Sl w' B enc k A n zs := h.keep fun _ hp => hb.cell hp
theorem Sl.belowMore (h : Sl w B enc k A n zs) (hb : Below B w w') (hB : B ≤ B') : Sl w' B' enc k A n zs := (h.below hb).more hB
theorem Sl.drewN (h : Sl w B enc k A n zs) (q : Nat) : Sl (w.drewN q) B enc k A n zs := h
theorem Sl.cells {j : Nat} (h : Sl w B enc k A n zs) (hj : j < n) : ∃ b off, A = some ⟨b, off, none⟩ ∧ b < B ∧ ∀ i u, (enc zs[j]!)[i]? = some u → w.cell? ⟨b, off + j * k + i, none⟩ = some u := by
  obtain ⟨b, off, e, hb, hc⟩ := h.2 (by omega)
  exact ⟨b, off, e, hb, hc j hj⟩
theorem flat_at (hk : ∀ x, (enc x).length = k) : ∀ (zs : List α) (j i : Nat) (u : Value), j < zs.length → (enc zs[j]!)[i]? = some u → (zs.flatMap enc)[j * k + i]? = some u
  | [], _, _, _, h, _ => absurd h (by simp)
  | x :: r, 0, i, u, _, h => by
    have hx : (x :: r)[0]! = x := rfl
    rw [hx] at h
    have hi : i < (enc x).length := (List.getElem?_eq_some_iff.1 h).1
    rw [List.flatMap_cons, Nat.zero_mul, Nat.zero_add, List.getElem?_append_left hi]; exact h
  | x :: r, j + 1, i, u, hj, h => by
    have hx : (x :: r)[j + 1]! = r[j]! := by simp
    rw [hx] at h
    have := flat_at hk r j i u (by simpa using hj) h
    rw [List.flatMap_cons, List.getElem?_append_right (by rw [hk, Nat.succ_mul]; omega), hk, ← this]
    congr 1; rw [Nat.succ_mul]; omega
omit [Inhabited α] in
theorem flat_len (hk : ∀ x, (enc x).length = k) : ∀ zs : List α, (zs.flatMap enc).length = zs.length * k
  | [] => by simp
  | x :: r => by rw [List.flatMap_cons, List.length_append, flat_len hk r, hk, List.length_cons, Nat.succ_mul]; omega
theorem Sl.of_own {base : Nat} {e : TypeId} {c : Nat} (hk : ∀ x, (enc x).length = k) (h : w.ownsRow base e k (.slice A n c) n (zs.flatMap enc)) (hn : zs.length = n) : Sl w w.heap.size enc k A n zs := by
  refine ⟨hn, fun h0 => ?_⟩
  obtain ⟨g, cap, hv, _, hlt⟩ := h.form h0
  have hA : A = some ⟨g, 0, none⟩ := by injection hv
  subst hA
  refine ⟨g, 0, rfl, hlt, fun j hj i u hu => ?_⟩
  have := h.cells (g := g) rfl _ _ (flat_at hk zs j i u (by omega) hu)
  simpa [Addr.add_lit] using this
end
end Go.Proofs.YtbpmmmnphpkdjaaGreatDoor

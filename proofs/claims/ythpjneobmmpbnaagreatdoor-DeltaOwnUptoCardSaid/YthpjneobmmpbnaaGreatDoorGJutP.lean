/- Words for slices whose elements have several cells: what such a slice reads as, and that it goes on reading so. -/
import Derived.Below
import Derived.Laws.OwnMore
import Derived.Deep.AppendLies
import Derived.Deep.Draws
import Derived.Lib.Hide
import Derived.WalkKit
import Derived.Laws.StructEq
import Derived.Lib.ValidU
namespace Go.Proofs.YthpjneobmmpbnaaGreatDoor
open Go.RowKit

theorem drewN_below {B : Nat} {a w : World} (h : Below B a w) (q : Nat) : Below B a (w.drewN q) := ⟨h.os, h.tape, h.output, h.size, h.block⟩
theorem drewN_self (w : World) (q : Nat) : Below w.heap.size w (w.drewN q) := drewN_below (Below.refl _ _) q

/-- the slice value '.slice A n _' holds the elements zs, k cells each, and lies below block B -/
def Sl {α : Type} [Inhabited α] (w : World) (B : Nat) (enc : α → List Value) (k : Nat) (A : Option Addr) (n : Nat) (zs : List α) : Prop :=
  zs.length = n ∧ (0 < n → ∃ b off, A = some ⟨b, off, none⟩ ∧ b < B ∧ ∀ j, j < n → ∀ i u, (enc zs[j]!)[i]? = some u → w.cell? ⟨b, off + j * k + i, none⟩ = some u)

section
variable {α : Type} [Inhabited α] {w w' : World} {B B' k n : Nat} {enc : α → List Value} {A : Option Addr} {zs : List α}
theorem Sl.len (h : Sl w B enc k A n zs) : zs.length = n := h.1
theorem Sl.nil_ : Sl w B enc k A 0 ([] : List α) := ⟨rfl, fun h => absurd h (by omega)⟩
theorem Sl.keep (h : Sl w B enc k A n zs) (hk : ∀ p : Addr, p.block < B → w'.cell? p = w.cell? p) : Sl w' B enc k A n zs :=
  ⟨h.1, fun hn => by
    obtain ⟨b, off, e, hb, hc⟩ := h.2 hn
    exact ⟨b, off, e, hb, fun j hj i u hu => (hk _ hb).trans (hc j hj i u hu)⟩⟩
theorem Sl.more (h : Sl w B enc k A n zs) (hB : B ≤ B') : Sl w B' enc k A n zs :=
  ⟨h.1, fun hn => by
    obtain ⟨b, off, e, hb, hc⟩ := h.2 hn
    exact ⟨b, off, e, by omega, hc⟩⟩
theorem Sl.below (h : Sl w B enc k A n zs) (hb : Below B w w') : Sl w' B enc k A n zs := h.keep fun _ hp => hb.cell hp
theorem Sl.belowMore (h : Sl w B enc k A n zs) (hb : Below B w w') (hB : B ≤ B') : Sl w' B' enc k A n zs := (h.below hb).more hB
theorem Sl.drewN (h : Sl w B enc k A n zs) (q : Nat) : Sl (w.drewN q) B enc k A n zs := h
theorem Sl.cells {j : Nat} (h : Sl w B enc k A n zs) (hj : j < n) : ∃ b off, A = some ⟨b, off, none⟩ ∧ b < B ∧ ∀ i u, (enc zs[j]!)[i]? = some u → w.cell? ⟨b, off + j * k + i, none⟩ = some u := by
  obtain ⟨b, off, e, hb, hc⟩ := h.2 (by omega)
  exact ⟨b, off, e, hb, hc j hj⟩
theorem flat_at (hk : ∀ x, (enc x).length = k) : ∀ (zs : List α) (j i : Nat) (u : Value), j < zs.length → (enc zs[j]!)[i]? = some u → (zs.flatMap enc)[j * k + i]? = some u
  | [], _, _, _, h, _ => absurd h (by simp)
  | x :: r, 0, i, u, _, h => by
    have hx : (x :: r)[0]! = x := rfl
    rw [hx] at h
    have hi : i < (enc x).length := (List.getElem?_eq_some_iff.1 h).1
    rw [List.flatMap_cons, Nat.zero_mul, Nat.zero_add, List.getElem?_append_left hi]; exact h
  | x :: r, j + 1, i, u, hj, h => by
    have hx : (x :: r)[j + 1]! = r[j]! := by simp
    rw [hx] at h
    have := flat_at hk r j i u (by simpa using hj) h
    rw [List.flatMap_cons, List.getElem?_append_right (by rw [hk, Nat.succ_mul]; omega), hk, ← this]
    congr 1; rw [Nat.succ_mul]; omega
omit [Inhabited α] in
theorem flat_len (hk : ∀ x, (enc x).length = k) : ∀ zs : List α, (zs.flatMap enc).length = zs.length * k
  | [] => by simp
  | x :: r => by rw [List.flatMap_cons, List.length_append, flat_len hk r, hk, List.length_cons, Nat.succ_mul]; omega
theorem Sl.of_own {base : Nat} {e : TypeId} {c : Nat} (hk : ∀ x, (enc x).length = k) (h : w.ownsRow base e k (.slice A n c) n (zs.flatMap enc)) (hn : zs.length = n) : Sl w w.heap.size enc k A n zs := by
  refine ⟨hn, fun h0 => ?_⟩
  obtain ⟨g, cap, hv, _, hlt⟩ := h.form h0
  have hA : A = some ⟨g, 0, none⟩ := by injection hv
  subst hA
  refine ⟨g, 0, rfl, hlt, fun j hj i u hu => ?_⟩
  have := h.cells (g := g) rfl _ _ (flat_at hk zs j i u (by omega) hu)
  simpa [Addr.add_lit] using this
end
end Go.Proofs.YthpjneobmmpbnaaGreatDoor
namespace Go.Proofs.YthpjneobmmpbnaaGreatDoor
open Go
abbrev Bs := List UInt8
/-- a byte's cell -/
def enc8 (b : UInt8) : List Value := [.int .u8 (b.toNat : Int)]
/-- so many bytes of a number, the highest first -/
def beB (x : Nat) : Nat → Bs
  | 0 => []
  | n + 1 => UInt8.ofNat (x / 256 ^ n) :: beB x n
/-- the number of bytes, the highest first -/
def beN (l : Bs) : Nat := l.foldl (fun a b => a * 256 + b.toNat) 0
def i32N (x : Nat) : Int := if x < 2147483648 then (x : Int) else (x : Int) - 4294967296
def i64N (x : Nat) : Int := if x < 9223372036854775808 then (x : Int) else (x : Int) - 18446744073709551616
/-- what a reader answers: a value and the place behind it, or the place and the error -/
abbrev PR (α : Type) := Except (Nat × Int) (α × Nat)
def PR.then {α β : Type} (x : PR α) (f : α → Nat → PR β) : PR β := match x with | .ok (a, at') => f a at' | .error e => .error e
def takeP (l : Bs) (n : Nat) (p : Nat) : PR Bs := if l.length - p < n then .error (p, 20) else .ok ((l.drop p).take n, p + n)
def intP (l : Bs) (p : Nat) : PR Int := (takeP l 4 p).then fun b a => .ok (i32N (beN b), a)
def longP (l : Bs) (p : Nat) : PR Int := (takeP l 8 p).then fun b a => .ok (i64N (beN b), a)
def sizeP (l : Bs) (most : Nat) (p : Nat) : PR Nat := (intP l p).then fun n a => if n < 0 ∨ (most : Int) < n then .error (p, 22) else .ok (n.toNat, a)
def bytesP (l : Bs) (most : Nat) (p : Nat) : PR Bs := (sizeP l most p).then fun n a => if l.length - a < n then .error (p, 20) else .ok ((l.drop a).take n, a + n)
def textP (l : Bs) (most : Nat) (p : Nat) : PR Bs := (bytesP l most p).then fun b a => if Lib.validD b then .ok (b, a) else .error (p, 22)
def countP (l : Bs) (most least : Nat) (p : Nat) : PR Nat := (sizeP l most p).then fun n a => if 1 ≤ least ∧ (l.length - a) / least < n then .error (p, 20) else .ok (n, a)
/-- so many -/
def repP {α : Type} (f : Nat → PR α) : Nat → Nat → PR (List α)
  | 0, p => .ok ([], p)
  | n + 1, p => (f p).then fun x a => (repP f n a).then fun l b => .ok (x :: l, b)
def listP {α : Type} (l : Bs) (most least : Nat) (f : Nat → PR α) (p : Nat) : PR (List α) := (countP l most least p).then fun n a => repP f n a
theorem beB_len (x : Nat) : ∀ n, (beB x n).length = n
  | 0 => rfl
  | n + 1 => by rw [beB, List.length_cons, beB_len x n]
/-- a place within the bytes stays within -/
def PR.within {α : Type} (l : Bs) (x : PR α) : Prop := match x with | .ok (_, a) => a ≤ l.length | .error (a, e) => a ≤ l.length ∧ e ≠ 0
theorem PR.within.bind {α β : Type} {l : Bs} {x : PR α} {f : α → Nat → PR β} (h : x.within l) (hf : ∀ v a, x = .ok (v, a) → a ≤ l.length → (f v a).within l) : (x.then f).within l := by
  match x, h with
  | .ok (v, a), h => exact hf v a rfl h
  | .error (a, e), h => exact h
section
variable {l : Bs} {p : Nat}
theorem takeP_in (n : Nat) (hp : p ≤ l.length) : (takeP l n p).within l := by
  unfold takeP
  by_cases h : l.length - p < n
  · rw [if_pos h]; exact ⟨hp, by decide⟩
  · rw [if_neg h]; show p + n ≤ l.length; omega
theorem intP_in (hp : p ≤ l.length) : (intP l p).within l := (takeP_in 4 hp).bind fun _ _ _ h => h
theorem longP_in (hp : p ≤ l.length) : (longP l p).within l := (takeP_in 8 hp).bind fun _ _ _ h => h
theorem sizeP_in (m : Nat) (hp : p ≤ l.length) : (sizeP l m p).within l := (intP_in hp).bind fun n a _ h => by
  show PR.within l (if _ then _ else _)
  by_cases hc : n < 0 ∨ (m : Int) < n
  · rw [if_pos hc]; exact ⟨hp, by decide⟩
  · rw [if_neg hc]; exact h
theorem bytesP_in (m : Nat) (hp : p ≤ l.length) : (bytesP l m p).within l := (sizeP_in m hp).bind fun n a _ h => by
  show PR.within l (if _ then _ else _)
  by_cases hc : l.length - a < n
  · rw [if_pos hc]; exact ⟨hp, by decide⟩
  · rw [if_neg hc]; show a + n ≤ l.length; omega
theorem textP_in (m : Nat) (hp : p ≤ l.length) : (textP l m p).within l := (bytesP_in m hp).bind fun b a _ h => by
  show PR.within l (if _ then _ else _)
  by_cases hc : Lib.validD b = true
  · rw [if_pos hc]; exact h
  · rw [if_neg hc]; exact ⟨hp, by decide⟩
theorem countP_in (m k : Nat) (hp : p ≤ l.length) : (countP l m k p).within l := (sizeP_in m hp).bind fun n a _ h => by
  show PR.within l (if _ then _ else _)
  by_cases hc : 1 ≤ k ∧ (l.length - a) / k < n
  · rw [if_pos hc]; exact ⟨hp, by decide⟩
  · rw [if_neg hc]; exact h
theorem repP_in {α : Type} {f : Nat → PR α} (hf : ∀ p, p ≤ l.length → (f p).within l) : ∀ (n p : Nat), p ≤ l.length → (repP f n p).within l
  | 0, _, hp => hp
  | n + 1, p, hp => (hf p hp).bind fun _ a _ h => (repP_in hf n a h).bind fun _ _ _ h => h
theorem listP_in {α : Type} {f : Nat → PR α} (m k : Nat) (hf : ∀ p, p ≤ l.length → (f p).within l) (hp : p ≤ l.length) : (listP l m k f p).within l := (countP_in m k hp).bind fun n a _ h => repP_in hf n a h
end
/-- what has been read ahead of the rest -/
def PR.ahead {α : Type} (xs : List α) (x : PR (List α)) : PR (List α) := x.then fun l a => .ok (xs ++ l, a)
theorem repP_step {α : Type} {f : Nat → PR α} {n p a : Nat} {x : α} (xs : List α) (h : f p = .ok (x, a)) : (repP f (n + 1) p).ahead xs = (repP f n a).ahead (xs ++ [x]) := by
  have h1 : repP f (n + 1) p = (repP f n a).then fun l b => .ok (x :: l, b) := by
    show (f p).then _ = _
    rw [h]; rfl
  rw [h1]
  unfold PR.ahead
  generalize repP f n a = y
  match y with
  | .ok (l, b) => simp [PR.then]
  | .error e => rfl
theorem repP_fail {α : Type} {f : Nat → PR α} {n p : Nat} {e : Nat × Int} (xs : List α) (h : f p = .error e) : (repP f (n + 1) p).ahead xs = .error e := by
  have h1 : repP f (n + 1) p = .error e := by
    show (f p).then _ = _
    rw [h]; rfl
  rw [h1]; rfl
theorem ahead_nil {α : Type} (x : PR (List α)) : x.ahead [] = x := by
  match x with
  | .ok (l, b) => rfl
  | .error e => rfl
/-- an identity -/
def idP (l : Bs) (p : Nat) : PR (Bs × Bs) := (textP l 256 p).then fun s a => (textP l 256 a).then fun t b => .ok ((s, t), b)
theorem idP_in {l : Bs} {p : Nat} (hp : p ≤ l.length) : (idP l p).within l := (textP_in 256 hp).bind fun _ _ _ h => (textP_in 256 h).bind fun _ _ _ h => h
end Go.Proofs.YthpjneobmmpbnaaGreatDoor

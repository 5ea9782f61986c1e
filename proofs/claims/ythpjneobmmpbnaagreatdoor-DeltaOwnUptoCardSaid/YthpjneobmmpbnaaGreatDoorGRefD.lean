/- append of a list to a list that the caller owns, for any kind of element. -/
import Derived.Test.YthpjneobmmpbnaaGreatDoorGJutP
import Derived.Test.YthpjneobmmpbnaaGreatDoorGClkE
import Derived.Deep.AppendLies
import Derived.Laws.AppendOwnNone
import Derived.Test.YthpjneobmmpbnaaGreatDoorGHeld
namespace Go.Proofs.YthpjneobmmpbnaaGreatDoor
open Go.RowKit Go.MapKept Go.Maps
theorem Sl.news {α : Type} [Inhabited α] {w : World} {B : Nat} {enc : α → List Value} {k n : Nat} {a : Addr} {zs : List α} (hk : ∀ x, (enc x).length = k) (hk0 : 0 < k) (h : Sl w B enc k (some a) n zs) :
    ∀ j u, (zs.flatMap enc)[j]? = some u → w.cell? (a.add j) = some u := by
  intro j u hu
  have hlen : (zs.flatMap enc).length = n * k := by
    rw [← h.len]
    exact flat_len hk zs
  have hj : j < n * k := by rw [← hlen]; exact (List.getElem?_eq_some_iff.1 hu).1
  have hn : 0 < n := by rcases Nat.eq_zero_or_pos n with e | e; (rw [e] at hj; omega); exact e
  obtain ⟨b, off, e, hb, hc⟩ := h.2 hn
  injection e with e
  subst e
  have hd : j / k < n := (Nat.div_lt_iff_lt_mul hk0).2 hj
  have hm : j % k < k := Nat.mod_lt _ hk0
  obtain ⟨y, hy⟩ : ∃ y, (enc zs[j / k]!)[j % k]? = some y := ⟨_, List.getElem?_eq_getElem (by rw [hk]; exact hm)⟩
  have h1 := flat_at hk zs (j / k) (j % k) y (by rw [h.len]; exact hd) hy
  have e1 : j / k * k + j % k = j := by rw [Nat.mul_comm]; exact Nat.div_add_mod j k
  rw [e1, hu] at h1
  injection h1 with h1
  subst h1
  have := hc (j / k) hd (j % k) u hy
  rw [Nat.add_assoc, e1] at this
  have e2 : (⟨b, off, none⟩ : Addr).add j = ⟨b, off + j, none⟩ := by
    simp only [Addr.add]; by_cases h0 : j = 0 <;> simp [h0]
  rw [e2]; exact this
theorem own_belowG {w w' : World} {base n : Nat} {T : TypeId} {k : Nat} {v : Value} {r : List Value} (h : w.ownsRow base T k v n r) (hg : w.grownBy w' v.ownBlock) (hb : base ≤ w.heap.size) : Below base w w' := by
  refine (Below.refl base w).grown hg hb (fun j hj => ?_)
  rcases h with ⟨_, ⟨e, e2⟩ | ⟨g, cap, cur, e, hge, _⟩⟩
  · rw [e] at hj; cases hj
  · rw [e] at hj; injection hj with hj; simp only at hj; omega
/-- what is known of a kind of element -/
structure Elem {α : Type} [Inhabited α] (enc : α → List Value) (ST T : TypeId) (k bs : Nat) (z : Value) : Prop where
  under : Tryz.prog.underlying ST = some (.slice T)
  info : (Tryz.prog.info? T).map (fun i => (i.zero, i.size, i.bytes)) = some (some z, k, bs)
  size : z.cells.size = k
  len : ∀ x, (enc x).length = k
  pos : 0 < k
  one : ∀ x u, u ∈ enc x → u.oneCell' = true
  small : bs ≤ 64
theorem wpList_appG {α : Type} [Inhabited α] {enc : α → List Value} {ST T : TypeId} {k bs : Nat} {z : Value} (E : Elem enc ST T k bs z) {ops : Array Oper} {rest : List Oper} {o : Oper} {a : Act} {Q : Exit → Act → World → Prop} {w : World} (hgd : o.guard = none) (s x : Operand)
    (ho : o.op = .call { callee := .builtin .append, args := #[s, x], argTypes := #[ST, ST] }) (base : Nat) (A : Option Addr) (n c : Nat) (l : List α) (hs : a.eval s = .slice A n c)
    (hown : w.ownsRow base T k (.slice A n c) n (l.flatMap enc)) (A' : Option Addr) (m c' : Nat) (l' : List α) (hx : a.eval x = .slice A' m c') (hsl : Sl w w.heap.size enc k A' m l')
    (hA' : A' = none → m = 0 ∧ c' = 0) (hn : n + m ≤ 16777216) (hbase : base ≤ w.heap.size)
    (h : ∀ A2 c2 w', w'.ownsRow base T k (.slice A2 (n + m) c2) (n + m) ((l ++ l').flatMap enc) → Below base w w' → wpList Tryz.prog ops Q rest (a.put o.dst (.slice A2 (n + m) c2)) w') : wpList Tryz.prog ops Q (o :: rest) a w := by
  obtain ⟨i0, hi0, hz0, hz1, hz2⟩ := info_partsI E.info
  cases A' with
  | none =>
    obtain ⟨rfl, rfl⟩ := hA' rfl
    have hl0 : l' = [] := List.length_eq_zero_iff.1 hsl.len
    subst hl0
    refine wpList_append_own_none hgd s x _ ho base _ i0 k E.under hi0 _ n _ hs hown hx ?_
    have := h A c w (by rw [List.append_nil]; exact hown) (Below.refl _ _)
    exact this
  | some a0 =>
    refine wpList_append_own w hgd s x _ ho base T i0 _ k bs E.under hi0 hz0 hz1 hz2 E.size E.pos _ n _ hs hown a0 m c' (l'.flatMap enc) hx (by rw [flat_len E.len, hsl.len]) (Sl.news E.len E.pos hsl) ?_ (by unfold maxLen; omega) ?_ hbase ?_
    · intro u hu
      obtain ⟨x, _, hx⟩ := List.mem_flatMap.1 hu
      exact E.one x u hx
    · have := Nat.mul_le_mul hn E.small
      omega
    · intro v' w' h1 h2 _
      obtain ⟨A2, c2, rfl⟩ := own_formI h1
      refine h A2 c2 w' ?_ (own_belowG hown h2 hbase)
      rw [List.flatMap_append]; exact h1
/-- '[]T{}' -/
theorem own_empty {T : TypeId} {k : Nat} (w : World) : (w.alloc (.cells #[] T)).ownsRow w.heap.size T k (.slice (some ⟨w.heap.size, 0, none⟩) 0 0) 0 [] :=
  ⟨by simp, .inr ⟨w.heap.size, 0, #[], rfl, Nat.le_refl _, (MapKept.heap_alloc _ _).1, Nat.le_refl _, by decide, by simp, by simp⟩⟩
theorem own_later {w w' : World} {base n k : Nat} {T : TypeId} {v : Value} {xs : List Value} (h : w.ownsRow base T k v n xs) (hb : Below w.heap.size w w') : w'.ownsRow base T k v n xs :=
  own_fr h (Fr.of_below (own := []) hb) (by simp)
end Go.Proofs.YthpjneobmmpbnaaGreatDoor
namespace Go.Proofs.YthpjneobmmpbnaaGreatDoor
open Go.RowKit Go.MapKept Go.Maps
section
variable {w w' : World} {rb : Nat} {ro ro' : List Nat} {A : Option Addr} {n c : Nat} {L : List KV}
end
theorem Fr.cell {own : List Nat} {w w' : World} (h : Fr own w w') {p : Addr} (hp : p.block < w.heap.size) (hn : p.block ∉ own) : w'.cell? p = w.cell? p := by
  have := h.block p.block hp hn
  obtain ⟨b, o, s⟩ := p
  simp only [World.cell?, this]
end Go.Proofs.YthpjneobmmpbnaaGreatDoor
namespace Go.Proofs.YthpjneobmmpbnaaGreatDoor
open Go.RowKit Go.MapKept Go.Maps
theorem keep1 {w w' : World} {a : Addr} {v : Value} (h : w.cell? a = some v) (hb : Below w.heap.size w w') : w'.cell? a = some v := (hb.cell (World.block_lt_of_cell? w _ h)).trans h
theorem heap_set_other (w : World) (b o : Nat) (v : Value) {g : Nat} (h : g ≠ b) : (w.setCell ⟨b, o, none⟩ v).heap[g]? = w.heap[g]? := Below.heap_setCell w ⟨b, o, none⟩ v g h
theorem fr_set (w : World) (b o : Nat) (v : Value) : Fr [b] w (w.setCell ⟨b, o, none⟩ v) := ⟨rfl, rfl, rfl, by simp [World.setCell], fun g _ hn => heap_set_other w b o v (by simpa using hn)⟩
end Go.Proofs.YthpjneobmmpbnaaGreatDoor

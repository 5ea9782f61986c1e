/- append of a list to a list that the caller owns, for any kind of element. -/
import Derived.Test.YthpjneobmmpbnaaGreatDoorDJutP
import Derived.Test.YthpjneobmmpbnaaGreatDoorDClkE
import Derived.Deep.AppendLies
import Derived.Laws.AppendOwnNone
import Derived.OwnWalk
import Derived.Deep.RegionWith
import Derived.Deep.RegionHeld3
import Derived.Lib.QuietBelow
import Derived.Lib.AppendStr
import Derived.Lib.ConvBytes
import Derived.Test.YthpjneobmmpbnaaGreatDoorDHeld
namespace Go.Proofs.YthpjneobmmpbnaaGreatDoor
open Go.RowKit Go.MapKept Go.Maps
theorem Sl.news {α : Type} [Inhabited α] {w : World} {B : Nat} {enc : α → List Value} {k n : Nat} {a : Addr} {zs : List α} (hk : ∀ x, (enc x).length = k) (hk0 : 0 < k) (h : Sl w B enc k (some a) n zs) :
    ∀ j u, (zs.flatMap enc)[j]? = some u → w.cell? (a.add j) = some u := by
  intro j u hu
  have hlen : (zs.flatMap enc).length = n * k := by
    rw [← h.len]
    exact flat_len hk zs
  have hj : j < n * k := by rw [← hlen]; exact (List.getElem?_eq_some_iff.1 hu).1
  have hn : 0 < n := by rcases Nat.eq_zero_or_pos n with e | e; (rw [e] at hj; omega); exact e
  obtain ⟨b, off, e, hb, hc⟩ := h.2 hn
  injection e with e
  subst e
  have hd : j / k < n := (Nat.div_lt_iff_lt_mul hk0).2 hj
  have hm : j % k < k := Nat.mod_lt _ hk0
  obtain ⟨y, hy⟩ : ∃ y, (enc zs[j / k]!)[j % k]? = some y := ⟨_, List.getElem?_eq_getElem (by rw [hk]; exact hm)⟩
  have h1 := flat_at hk zs (j / k) (j % k) y (by rw [h.len]; exact hd) hy
  have e1 : j / k * k + j % k = j := by rw [Nat.mul_comm]; exact Nat.div_add_mod j k
  rw [e1, hu] at h1
  injection h1 with h1
  subst h1
  have := hc (j / k) hd (j % k) u hy
  rw [Nat.add_assoc, e1] at this
  have e2 : (⟨b, off, none⟩ : Addr).add j = ⟨b, off + j, none⟩ := by
    simp only [Addr.add]; by_cases h0 : j = 0 <;> simp [h0]
  rw [e2]; exact this
theorem own_belowG {w w' : World} {base n : Nat} {T : TypeId} {k : Nat} {v : Value} {r : List Value} (h : w.ownsRow base T k v n r) (hg : w.grownBy w' v.ownBlock) (hb : base ≤ w.heap.size) : Below base w w' := by
  refine (Below.refl base w).grown hg hb (fun j hj => ?_)
  rcases h with ⟨_, ⟨e, e2⟩ | ⟨g, cap, cur, e, hge, _⟩⟩
  · rw [e] at hj; cases hj
  · rw [e] at hj; injection hj with hj; simp only at hj; omega
/-- what is known of a kind of element -/
structure Elem {α : Type} [Inhabited α] (enc : α → List Value) (ST T : TypeId) (k bs : Nat) (z : Value) : Prop where
  under : Tryz.prog.underlying ST = some (.slice T)
  info : (Tryz.prog.info? T).map (fun i => (i.zero, i.size, i.bytes)) = some (some z, k, bs)
  size : z.cells.size = k
  len : ∀ x, (enc x).length = k
  pos : 0 < k
  one : ∀ x u, u ∈ enc x → u.oneCell' = true
  small : bs ≤ 64
theorem wpList_appG {α : Type} [Inhabited α] {enc : α → List Value} {ST T : TypeId} {k bs : Nat} {z : Value} (E : Elem enc ST T k bs z) {ops : Array Oper} {rest : List Oper} {o : Oper} {a : Act} {Q : Exit → Act → World → Prop} {w : World} (hgd : o.guard = none) (s x : Operand)
    (ho : o.op = .call { callee := .builtin .append, args := #[s, x], argTypes := #[ST, ST] }) (base : Nat) (A : Option Addr) (n c : Nat) (l : List α) (hs : a.eval s = .slice A n c)
    (hown : w.ownsRow base T k (.slice A n c) n (l.flatMap enc)) (A' : Option Addr) (m c' : Nat) (l' : List α) (hx : a.eval x = .slice A' m c') (hsl : Sl w w.heap.size enc k A' m l')
    (hA' : A' = none → m = 0 ∧ c' = 0) (hn : n + m ≤ 16777216) (hbase : base ≤ w.heap.size)
    (h : ∀ A2 c2 w', w'.ownsRow base T k (.slice A2 (n + m) c2) (n + m) ((l ++ l').flatMap enc) → Below base w w' → wpList Tryz.prog ops Q rest (a.put o.dst (.slice A2 (n + m) c2)) w') : wpList Tryz.prog ops Q (o :: rest) a w := by
  obtain ⟨i0, hi0, hz0, hz1, hz2⟩ := info_partsI E.info
  cases A' with
  | none =>
    obtain ⟨rfl, rfl⟩ := hA' rfl
    have hl0 : l' = [] := List.length_eq_zero_iff.1 hsl.len
    subst hl0
    refine wpList_append_own_none hgd s x _ ho base _ i0 k E.under hi0 _ n _ hs hown hx ?_
    have := h A c w (by rw [List.append_nil]; exact hown) (Below.refl _ _)
    exact this
  | some a0 =>
    refine wpList_append_own w hgd s x _ ho base T i0 _ k bs E.under hi0 hz0 hz1 hz2 E.size E.pos _ n _ hs hown a0 m c' (l'.flatMap enc) hx (by rw [flat_len E.len, hsl.len]) (Sl.news E.len E.pos hsl) ?_ (by unfold maxLen; omega) ?_ hbase ?_
    · intro u hu
      obtain ⟨x, _, hx⟩ := List.mem_flatMap.1 hu
      exact E.one x u hx
    · have := Nat.mul_le_mul hn E.small
      omega
    · intro v' w' h1 h2 _
      obtain ⟨A2, c2, rfl⟩ := own_formI h1
      refine h A2 c2 w' ?_ (own_belowG hown h2 hbase)
      rw [List.flatMap_append]; exact h1
/-- '[]T{}' -/
theorem own_empty {T : TypeId} {k : Nat} (w : World) : (w.alloc (.cells #[] T)).ownsRow w.heap.size T k (.slice (some ⟨w.heap.size, 0, none⟩) 0 0) 0 [] :=
  ⟨by simp, .inr ⟨w.heap.size, 0, #[], rfl, Nat.le_refl _, (MapKept.heap_alloc _ _).1, Nat.le_refl _, by decide, by simp, by simp⟩⟩
theorem own_later {w w' : World} {base n k : Nat} {T : TypeId} {v : Value} {xs : List Value} (h : w.ownsRow base T k v n xs) (hb : Below w.heap.size w w') : w'.ownsRow base T k v n xs :=
  own_fr h (Fr.of_below (own := []) hb) (by simp)
end Go.Proofs.YthpjneobmmpbnaaGreatDoor
namespace Go.Proofs.YthpjneobmmpbnaaGreatDoor
open Go.RowKit Go.MapKept Go.Maps
theorem heap_setJ {w : World} {b o : Nat} {cs : Array Value} {T : TypeId} (h : w.heap[b]? = some (.cells cs T (0, 0))) (v : Value) : (w.setCell ⟨b, o, none⟩ v).heap[b]? = some (.cells (cs.setIfInBounds o v) T (0, 0)) := by
  unfold World.setCell
  rw [Array.getElem?_modify, if_pos rfl, h]
  rfl
theorem heap_otherJ (w : World) (b o : Nat) (v : Value) {g : Nat} (h : g ≠ b) : (w.setCell ⟨b, o, none⟩ v).heap[g]? = w.heap[g]? := Below.heap_setCell w ⟨b, o, none⟩ v g h
theorem fr_setJ (w : World) (b o : Nat) (v : Value) : Fr [b] w (w.setCell ⟨b, o, none⟩ v) := ⟨rfl, rfl, rfl, by simp [World.setCell], fun g _ hn => heap_otherJ w b o v (by simpa using hn)⟩
theorem Fr.setJ {own : List Nat} {w w1 : World} (h : Fr own w w1) {b : Nat} (hb : b ∈ own) (o : Nat) (v : Value) : Fr own w (w1.setCell ⟨b, o, none⟩ v) := h.trans (fr_setJ w1 b o v) (fun g hg => .inl (by rw [List.mem_singleton.1 hg]; exact hb))
theorem Fr.cellJ {own : List Nat} {w w' : World} (h : Fr own w w') {p : Addr} (hp : p.block < w.heap.size) (hn : p.block ∉ own) : w'.cell? p = w.cell? p := by
  simp only [World.cell?, h.block p.block hp hn]
theorem Fr.grow {own : List Nat} {w w' : World} {row : Option Nat} (h : w.grownBy w' row) (hr : ∀ g, row = some g → g ∈ own) : Fr own w w' :=
  ⟨h.os, h.tape, h.output, h.size, fun g hg hn => h.block g hg fun e => hn (hr g e.symm)⟩
theorem Sl.fr {α : Type} [Inhabited α] {w w' : World} {B : Nat} {enc : α → List Value} {k n : Nat} {A : Option Addr} {zs : List α} {own : List Nat} (h : Sl w B enc k A n zs) (hf : Fr own w w') (hB : B ≤ w.heap.size) (ho : ∀ g ∈ own, B ≤ g) : Sl w' B enc k A n zs :=
  h.keep fun p hp => hf.cellJ (Nat.lt_of_lt_of_le hp hB) fun hm => absurd (ho _ hm) (by omega)
instance : Inhabited UInt8 := ⟨0⟩
theorem enc8_len (b : UInt8) : (enc8 b).length = 1 := rfl
theorem Sl.at8 {w : World} {B n : Nat} {A : Option Addr} {l : Bs} (h : Sl w B enc8 1 A n l) {j : Nat} (hj : j < n) : ∃ b off, A = some ⟨b, off, none⟩ ∧ b < B ∧ w.cell? ⟨b, off + j, none⟩ = some (.int .u8 (l[j]!.toNat : Int)) := by
  obtain ⟨b, off, e, hb, hc⟩ := h.cells hj
  refine ⟨b, off, e, hb, ?_⟩
  have := hc 0 _ rfl
  simpa using this
/-- append to bytes of one's own -/
theorem wpList_app8 {ops : Array Oper} {rest : List Oper} {o : Oper} {a : Act} {Q : Exit → Act → World → Prop} {w : World} (hgd : o.guard = none) (s x : Operand)
    (ho : o.op = .call { callee := .builtin .append, args := #[s, x], argTypes := #[22, 22] }) (base : Nat) (A : Option Addr) (n c : Nat) (l : Bs) (hs : a.eval s = .slice A n c)
    (hown : w.ownsRow base 5 1 (.slice A n c) n (l.flatMap enc8)) (A' : Option Addr) (m c' : Nat) (l' : Bs) (hx : a.eval x = .slice A' m c') (hsl : Sl w w.heap.size enc8 1 A' m l')
    (hA' : A' = none → m = 0 ∧ c' = 0) (hn : n + m ≤ 140737488355328) (hbase : base ≤ w.heap.size)
    (h : ∀ A2 c2 w', w'.ownsRow base 5 1 (.slice A2 (n + m) c2) (n + m) ((l ++ l').flatMap enc8) → w.grownBy w' (Value.slice A n c).ownBlock → wpList Tryz.prog ops Q rest (a.put o.dst (.slice A2 (n + m) c2)) w') : wpList Tryz.prog ops Q (o :: rest) a w := by
  have hinfo : (Tryz.prog.info? 5).map (fun i => (i.zero, i.size, i.bytes)) = some (some (.int .u8 0), 1, 1) := by kernel_rfl
  obtain ⟨i0, hi0, hz0, hz1, hz2⟩ := info_partsI hinfo
  cases A' with
  | none =>
    obtain ⟨rfl, rfl⟩ := hA' rfl
    have hl0 : l' = [] := List.length_eq_zero_iff.1 hsl.len
    subst hl0
    refine wpList_append_own_none hgd s x _ ho base _ i0 1 Tryz.underlying22 hi0 _ n _ hs hown hx ?_
    have := h A c w (by rw [List.append_nil]; exact hown) (World.grownBy.refl _ _)
    exact this
  | some a0 =>
    refine wpList_append_own w hgd s x _ ho base 5 i0 _ 1 1 Tryz.underlying22 hi0 hz0 hz1 hz2 (by decide) (by decide) _ n _ hs hown a0 m c' (l'.flatMap enc8) hx (by rw [flat_len enc8_len, hsl.len]) (Sl.news enc8_len (by decide) hsl) ?_ (by unfold maxLen; omega) (by omega) hbase ?_
    · intro u hu
      obtain ⟨x, _, hx⟩ := List.mem_flatMap.1 hu
      simp only [enc8, List.mem_singleton] at hx
      rw [hx]; rfl
    · intro v' w' h1 h2 _
      obtain ⟨A2, c2, rfl⟩ := own_formI h1
      refine h A2 c2 w' ?_ h2
      rw [List.flatMap_append]; exact h1
/-- what a Writer at wb, whose row lies at or above base, leaves as it was -/
structure Kw (wb base : Nat) (w w' : World) : Prop where
  os : w'.os = w.os
  tape : w'.tape = w.tape
  output : w'.output = w.output
  size : w.heap.size ≤ w'.heap.size
  low : ∀ g, g < base → g < w.heap.size → g ≠ wb → w'.heap[g]? = w.heap[g]?
  other : ∀ g o, w.heap[g]? = some o → (∀ cs, o ≠ .cells cs 5 (0, 0)) → g ≠ wb → w'.heap[g]? = some o
section
variable {wb base : Nat} {w w' w1 w2 : World}
theorem Kw.refl : Kw wb base w w := ⟨rfl, rfl, rfl, Nat.le_refl _, fun _ _ _ _ => rfl, fun _ _ h _ _ => h⟩
theorem Kw.trans (h : Kw wb base w w1) (k : Kw wb base w1 w2) : Kw wb base w w2 :=
  ⟨k.os.trans h.os, k.tape.trans h.tape, k.output.trans h.output, Nat.le_trans h.size k.size, fun g h1 h2 h3 => (k.low g h1 (Nat.lt_of_lt_of_le h2 h.size) h3).trans (h.low g h1 h2 h3), fun g o h1 h2 h3 => k.other g o (h.other g o h1 h2 h3) h2 h3⟩
theorem Kw.of_below (h : Below w.heap.size w w') : Kw wb base w w' :=
  ⟨h.os, h.tape, h.output, h.size, fun g _ h2 _ => h.block g h2, fun g _ h1 _ _ => (h.block g (Array.getElem?_eq_some_iff.1 h1).1).trans h1⟩
theorem Kw.set (h : Kw wb base w w1) (o : Nat) (v : Value) : Kw wb base w (w1.setCell ⟨wb, o, none⟩ v) :=
  ⟨h.os, h.tape, h.output, by simpa [World.setCell] using h.size, fun g h1 h2 h3 => (heap_otherJ w1 wb o v h3).trans (h.low g h1 h2 h3), fun g x h1 h2 h3 => (heap_otherJ w1 wb o v h3).trans (h.other g x h1 h2 h3)⟩
theorem Kw.below {B : Nat} (h : Kw wb base w w') (h1 : B ≤ wb) (h2 : B ≤ base) (h3 : B ≤ w.heap.size) : Below B w w' :=
  ⟨h.os, h.tape, h.output, h.size, fun g hg => h.low g (by omega) (by omega) (by omega)⟩
theorem Kw.cell {p : Addr} {v : Value} (h : Kw wb base w w') (hb : p.block < base) (hn : p.block ≠ wb) (hv : w.cell? p = some v) : w'.cell? p = some v := by
  have := h.low p.block hb (World.block_lt_of_cell? w _ hv) hn
  rw [← hv]
  simp only [World.cell?, this]
theorem Kw.more {base' : Nat} (h : Kw wb base w w') (hb : base' ≤ base) : Kw wb base' w w' := ⟨h.os, h.tape, h.output, h.size, fun g h1 => h.low g (by omega), h.other⟩
end
/-- a Writer that holds these bytes -/
structure WrB (w : World) (wb base : Nat) (l : Bs) : Prop where
  lt : wb < base
  size : base ≤ w.heap.size
  row : ∃ A c, w.heap[wb]? = some (.cells #[.slice A l.length c] 69 (0, 0)) ∧ w.ownsRow base 5 1 (.slice A l.length c) l.length (l.flatMap enc8)
theorem WrB.below {w w' : World} {wb base : Nat} {l : Bs} (h : WrB w wb base l) (hb : Below w.heap.size w w') : WrB w' wb base l := by
  obtain ⟨A, c, h1, h2⟩ := h.row
  exact ⟨h.lt, Nat.le_trans h.size hb.size, A, c, (hb.block wb (Nat.lt_of_lt_of_le h.lt h.size)).trans h1, own_later h2 hb⟩
/-- what a Writer's call leaves -/
def WrPost (l : Bs) (wb base : Nat) (w : World) (e : Ending) (w' : World) : Prop := e = .returned (.tuple #[]) ∧ WrB w' wb base l ∧ Kw wb base w w'
theorem Kw.grown {wb base n c : Nat} {A : Option Addr} {w w' : World} {xs : List Value} (ho : w.ownsRow base 5 1 (.slice A n c) n xs) (hg : w.grownBy w' (Value.slice A n c).ownBlock) : Kw wb base w w' := by
  refine ⟨hg.os, hg.tape, hg.output, hg.size, fun g h1 h2 h3 => hg.block g h2 fun e => ?_, fun g _ h1 h2 h3 => (hg.block g (Array.getElem?_eq_some_iff.1 h1).1 fun e => ?_).trans h1⟩
  · rcases ho.2 with ⟨e1, _⟩ | ⟨g', cap, cur, e1, e2, _⟩
    · rw [e1] at e; cases e
    · rw [e1] at e; injection e with e; simp only at e; omega
  · rcases ho.2 with ⟨e1, _⟩ | ⟨g', cap, cur, e1, e2, e3, _⟩
    · rw [e1] at e; cases e
    · rw [e1] at e; injection e with e; simp only at e
      subst e
      rw [h1] at e3
      injection e3 with e3
      exact h2 _ e3
theorem WrB.put {w w1 : World} {wb base c c2 : Nat} {A A2 : Option Addr} {l l2 : Bs} (h : WrB w wb base l) (hc : w.heap[wb]? = some (.cells #[.slice A l.length c] 69 (0, 0))) (ho : w.ownsRow base 5 1 (.slice A l.length c) l.length (l.flatMap enc8))
    (hg : w.grownBy w1 (Value.slice A l.length c).ownBlock) (hr : w1.ownsRow base 5 1 (.slice A2 l2.length c2) l2.length (l2.flatMap enc8)) :
    w1.heap[wb]? = some (.cells #[.slice A l.length c] 69 (0, 0)) ∧ WrB (w1.setCell ⟨wb, 0, none⟩ (.slice A2 l2.length c2)) wb base l2 ∧ Kw wb base w (w1.setCell ⟨wb, 0, none⟩ (.slice A2 l2.length c2)) := by
  have hk : Kw wb base w w1 := Kw.grown ho hg
  have hc1 : w1.heap[wb]? = some (.cells #[.slice A l.length c] 69 (0, 0)) := (hg.block wb (Nat.lt_of_lt_of_le h.lt h.size) fun e => by
    rcases ho.2 with ⟨e1, _⟩ | ⟨g', cap, cur, e1, e2, _⟩
    · rw [e1] at e; cases e
    · rw [e1] at e; injection e with e; simp only at e; have := h.lt; omega).trans hc
  refine ⟨hc1, ⟨h.lt, ?_, A2, c2, heap_setJ hc1 _, ?_⟩, hk.set 0 _⟩
  · have := hk.size; have := h.size; simp only [World.setCell, Array.size_modify]; omega
  · exact own_fr hr (fr_setJ w1 wb 0 _) fun g hg' => by rw [List.mem_singleton.1 hg']; exact h.lt
/-- a Reader that stands at p -/
structure Rd (w : World) (rb : Nat) (A : Option Addr) (n c : Nat) (l : Bs) (p : Nat) : Prop where
  cell : w.heap[rb]? = some (.cells #[.slice A n c, .int .i64 (p : Int), .bool false] 187 (0, 0))
  sl : Sl w rb enc8 1 A n l
  at_ : p ≤ n
  small : n ≤ 1099511627776
  cap : n ≤ c
  nil : A = none → n = 0 ∧ c = 0
theorem Rd.lt {w : World} {rb : Nat} {A : Option Addr} {n c : Nat} {l : Bs} {p : Nat} (h : Rd w rb A n c l p) : rb < w.heap.size := (Array.getElem?_eq_some_iff.1 h.cell).1
theorem Rd.fr {w w' : World} {rb : Nat} {A : Option Addr} {n c : Nat} {l : Bs} {p : Nat} {own : List Nat} (h : Rd w rb A n c l p) (hf : Fr own w w') (ho : ∀ g ∈ own, rb < g) : Rd w' rb A n c l p :=
  ⟨(hf.block rb h.lt fun hm => absurd (ho _ hm) (by omega)).trans h.cell, h.sl.fr hf (Nat.le_of_lt h.lt) fun g hg => Nat.le_of_lt (ho g hg), h.at_, h.small, h.cap, h.nil⟩
theorem Rd.below {w w' : World} {rb : Nat} {A : Option Addr} {n c : Nat} {l : Bs} {p : Nat} (h : Rd w rb A n c l p) (hb : Below w.heap.size w w') : Rd w' rb A n c l p := h.fr (Fr.of_below (own := []) hb) (by simp)
/-- the Reader has gone on -/
theorem Rd.go {w w' : World} {rb : Nat} {A : Option Addr} {n c : Nat} {l : Bs} {p q : Nat} (h : Rd w rb A n c l p) (hf : Fr [rb] w w') (hc : w'.heap[rb]? = some (.cells #[.slice A n c, .int .i64 (q : Int), .bool false] 187 (0, 0))) (hq : q ≤ n) : Rd w' rb A n c l q :=
  ⟨hc, h.sl.fr hf (Nat.le_of_lt h.lt) (fun g hg => by rw [List.mem_singleton.1 hg]; exact Nat.le_refl _), hq, h.small, h.cap, h.nil⟩
/-- the failure that a Reader panics with -/
def failV (rb : Nat) (k : Int) : PanicEntry := { v := .iface 140 (.agg #[.pointer (some ⟨rb, 0, none⟩), .int .i64 k]), recovered := false }
/-- how a reading call ends, by what is to be read -/
def RdOut {α : Type} (rb : Nat) (A : Option Addr) (n c : Nat) (l : Bs) (w : World) (x : PR α) (R : α → Value → World → Prop) (e : Ending) (w' : World) : Prop :=
  match x with
  | .ok (v, q) => (∃ u, e = .returned u ∧ R v u w') ∧ Rd w' rb A n c l q ∧ Fr [rb] w w'
  | .error (q, k) => e = .panicked [failV rb k] ∧ Rd w' rb A n c l q ∧ Fr [rb] w w'
end Go.Proofs.YthpjneobmmpbnaaGreatDoor
namespace Go.Proofs.YthpjneobmmpbnaaGreatDoor
open Go.RowKit Go.MapKept Go.Maps
set_option maxRecDepth 100000 in
theorem wPut_any (wb base : Nat) (l l' : Bs) (A' : Option Addr) (m c' : Nat) (w : World) (h : WrB w wb base l) (hs : Sl w w.heap.size enc8 1 A' m l') (hA : A' = none → m = 0 ∧ c' = 0) (hn : l.length + m ≤ 140737488355328) :
    Calls Tryz.prog 136 #[.pointer (some ⟨wb, 0, none⟩), .slice A' m c'] w (WrPost (l ++ l') wb base w) := by
  obtain ⟨A, c, hcell, hrow⟩ := h.row
  have k0 : w.cell? ⟨wb, 0, none⟩ = some (.slice A l.length c) := by rw [cellH hcell]; rfl
  have HW := Lib.hid h; have HS := Lib.hid hs; have HA := Lib.hid hA; have HC := Lib.hid hcell; have HR := Lib.hid hrow
  have HL := Lib.hid hs.len
  clear h hs hA hcell hrow
  go_enter Tryz.func136, Tryz.ntmps136
  go_wp2_with (at_builtin; refine wpList_app8 rfl _ _ rfl base A l.length c l ?hx HR.out A' m c' l' ?hy HS.out HA.out hn HW.out.size ?hk)
  (try case hx => rfl)
  (try case hy => rfl)
  case hk =>
    intro A2 c2 w1 hr hg
    rw [show l.length + m = (l ++ l').length by rw [List.length_append, HL.out], ← List.flatMap_append] at hr
    rw [show l.length + m = (l ++ l').length by rw [List.length_append, HL.out]]
    obtain ⟨hc1, hw2, hk2⟩ := HW.out.put HC.out HR.out hg hr
    rw [List.length_append] at hw2 hk2
    have HW2 := Lib.hid hw2; have HK2 := Lib.hid hk2
    have k1 : w1.cell? ⟨wb, 0, none⟩ = some (.slice A l.length c) := by rw [cellH hc1]; rfl
    have f1 : w1.frozen? ⟨wb, 0, none⟩ = false := by simp [World.frozen?, hc1]
    clear hr hg hc1 hw2 hk2 k0
    go_wp2_with fail
    refine bodyPost_ret (results_none rfl _ _ _) rfl ?_
    exact ⟨rfl, HW2.out, HK2.out⟩
theorem beB_at (x : Nat) : ∀ (n j : Nat), j < n → (beB x n)[j]! = UInt8.ofNat (x / 256 ^ (n - 1 - j))
  | n + 1, 0, _ => by simp [beB]
  | n + 1, j + 1, h => by
    rw [beB]
    have := beB_at x n j (by omega)
    simp only [List.getElem!_cons_succ]
    rw [this]
    congr 3
    omega
theorem beB_step (x : Nat) {n r : Nat} (h1 : 1 ≤ r) (h2 : r ≤ n) : (beB x n).take (n - (r - 1)) = (beB x n).take (n - r) ++ [UInt8.ofNat (x / 256 ^ (r - 1))] := by
  have hl := beB_len x n
  rw [show n - (r - 1) = n - r + 1 by omega, List.take_succ_eq_append_getElem (by omega)]
  congr 2
  have := beB_at x n (n - r) (by omega)
  rw [getElem!_pos _ _ (by omega)] at this
  rw [this]
  congr 3
  omega
theorem byte_of (x r : Nat) : ((UInt8.ofNat (x / 256 ^ (r - 1))).toNat : Int) = (x : Int) / 2 ^ (8 * (r - 1)) % 256 := by
  have h : (256 : Nat) ^ (r - 1) = 2 ^ (8 * (r - 1)) := by rw [Nat.pow_mul]
  rw [UInt8.toNat_ofNat', h]
  simp
/-- the bytes of a number, some of them written -/
def NmR (wb base nb x : Nat) (l : Bs) (w : World) (i : Value) (wr : World) : Prop := ∃ r : Nat, i = .int .i64 ((r : Int) - 1) ∧ r ≤ nb ∧ WrB wr wb base (l ++ (beB x nb).take (nb - r)) ∧ Kw wb base w wr
set_option maxRecDepth 100000 in
theorem number_any (wb base nb x : Nat) (l : Bs) (w : World) (h : WrB w wb base l) (hn : l.length ≤ 70368744177664) (hb : nb = 4 ∨ nb = 8) :
    Calls Tryz.prog 75 #[.pointer (some ⟨wb, 0, none⟩), .int .u64 (x : Int), .int .i64 (nb : Int)] w (WrPost (l ++ beB x nb) wb base w) := by
  have HW := Lib.hid h
  have hb8 : nb ≤ 8 := by omega
  clear h hb
  go_enter Tryz.func75, Tryz.ntmps75
  go_wp2_with fail
  go_loopw [6] (fun i wr => NmR wb base nb x l w i wr) (fun i _ => (RowKit.intOf i + 1).toNat)
  case atStart => exact ⟨nb, rfl, Nat.le_refl _, by rw [Nat.sub_self, List.take_zero, List.append_nil]; exact HW.out, Kw.refl⟩
  case round =>
    obtain ⟨r, rfl, hr, hw, hk⟩ := hrel
    have HW1 := Lib.hid hw; have HK := Lib.hid hk
    clear hw hk
    by_cases h0 : 1 ≤ r
    · have h1 : ((r : Int) - 1) ≥ 0 := by omega
      have hb1 : Below wr.heap.size wr (wr.alloc (.cells #[.int .u8 ((x : Int) / 2 ^ (8 * (r - 1)) % 256)] 5)) := (Below.refl _ wr).alloc (Nat.le_refl _) _
      have HW2 := Lib.hid (HW1.out.below hb1)
      have HK2 := Lib.hid (HK.out.trans (Kw.of_below hb1))
      have HS2 := Lib.hid (show Sl (wr.alloc (.cells #[.int .u8 ((x : Int) / 2 ^ (8 * (r - 1)) % 256)] 5)) (wr.alloc (.cells #[.int .u8 ((x : Int) / 2 ^ (8 * (r - 1)) % 256)] 5)).heap.size enc8 1 (some ⟨wr.heap.size, 0, none⟩) 1 [UInt8.ofNat (x / 256 ^ (r - 1))] from
        ⟨rfl, fun _ => ⟨wr.heap.size, 0, rfl, by simp, fun j hj a u hu => by
          have hj0 : j = 0 := by omega
          subst hj0
          rw [cellH (heap_alloc_new wr _), ← byte_of x r]
          match a, hu with
          | 0, hu => exact hu⟩⟩)
      have HL := Lib.hid (show (l ++ (beB x nb).take (nb - r)).length + 1 ≤ 140737488355328 by
        rw [List.length_append, List.length_take, beB_len]; omega)
      have HT := Lib.hid (beB_step x h0 hr)
      clear hb1
      go_wp2_with fail
      refine (wPut_any wb base _ _ _ _ _ _ HW2.out HS2.out (fun h => by cases h) HL.out).mono ?_
      rintro e w3 ⟨rfl, hw3, hk3⟩
      have HW3 := Lib.hid (show WrB w3 wb base (l ++ (beB x nb).take (nb - (r - 1))) by rw [HT.out, ← List.append_assoc]; exact hw3)
      have HK3 := Lib.hid (HK2.out.trans hk3)
      clear hw3 hk3
      go_wp2_with fail
      go_roundw
      case rel => exact ⟨r - 1, by go_num, by omega, HW3.out, HK3.out⟩
      case measure => simp [RowKit.intOf]; omega
    · have h1 : ¬ ((r : Int) - 1) ≥ 0 := by omega
      have hr0 : r = 0 := by omega
      subst hr0
      have HW3 := Lib.hid (show WrB wr wb base (l ++ beB x nb) by
        have := HW1.out
        rwa [Nat.sub_zero, List.take_of_length_le (by rw [beB_len]; exact Nat.le_refl _)] at this)
      go_wp2_with fail
      refine bodyPost_ret (results_none rfl _ _ _) rfl ?_
      exact ⟨rfl, HW3.out, HK.out⟩
end Go.Proofs.YthpjneobmmpbnaaGreatDoor
namespace Go.Proofs.YthpjneobmmpbnaaGreatDoor
open Go.RowKit Go.MapKept Go.Maps
def m32 (n : Int) : Nat := (n % 4294967296).toNat
def m64 (n : Int) : Nat := (n % 18446744073709551616).toNat
theorem m32_cast (n : Int) : ((m32 n : Nat) : Int) = n % 4294967296 := Int.toNat_of_nonneg (Int.emod_nonneg _ (by decide))
theorem m64_cast (n : Int) : ((m64 n : Nat) : Int) = n % 18446744073709551616 := Int.toNat_of_nonneg (Int.emod_nonneg _ (by decide))
set_option maxRecDepth 100000 in
theorem wInt_any (wb base : Nat) (l : Bs) (n : Int) (w : World) (h : WrB w wb base l) (hn : l.length ≤ 70368744177664) :
    Calls Tryz.prog 38 #[.pointer (some ⟨wb, 0, none⟩), .int .i32 n] w (WrPost (l ++ beB (m32 n) 4) wb base w) := by
  have HC := Lib.hid (number_any wb base 4 (m32 n) l w h hn (.inl rfl))
  rw [m32_cast] at HC
  clear h
  go_enter Tryz.func38, Tryz.ntmps38
  go_wp2_with fail
  refine HC.out.mono ?_
  rintro e w1 ⟨rfl, hw, hk⟩
  go_wp2_with fail
  refine bodyPost_ret (results_none rfl _ _ _) rfl ?_
  exact ⟨rfl, hw, hk⟩
set_option maxRecDepth 100000 in
theorem wLong_any (wb base : Nat) (l : Bs) (n : Int) (w : World) (h : WrB w wb base l) (hn : l.length ≤ 70368744177664) :
    Calls Tryz.prog 37 #[.pointer (some ⟨wb, 0, none⟩), .int .i64 n] w (WrPost (l ++ beB (m64 n) 8) wb base w) := by
  have HC := Lib.hid (number_any wb base 8 (m64 n) l w h hn (.inr rfl))
  rw [m64_cast] at HC
  clear h
  go_enter Tryz.func37, Tryz.ntmps37
  go_wp2_with fail
  refine HC.out.mono ?_
  rintro e w1 ⟨rfl, hw, hk⟩
  go_wp2_with fail
  refine bodyPost_ret (results_none rfl _ _ _) rfl ?_
  exact ⟨rfl, hw, hk⟩
set_option maxRecDepth 100000 in
theorem wCount_any (wb base : Nat) (l : Bs) (n : Nat) (w : World) (h : WrB w wb base l) (hn : l.length ≤ 70368744177664) (hm : n ≤ 1073741824) :
    Calls Tryz.prog 137 #[.pointer (some ⟨wb, 0, none⟩), .int .i64 (n : Int)] w (WrPost (l ++ beB n 4) wb base w) := by
  have HC := Lib.hid (wInt_any wb base l (n : Int) w h hn)
  rw [show m32 (n : Int) = n by unfold m32; omega] at HC
  clear h
  go_enter Tryz.func137, Tryz.ntmps137
  go_wp2_with fail
  refine HC.out.mono ?_
  rintro e w1 ⟨rfl, hw, hk⟩
  go_wp2_with fail
  refine bodyPost_ret (results_none rfl _ _ _) rfl ?_
  exact ⟨rfl, hw, hk⟩
/-- bytes that a Writer's writes leave as they are -/
def SlK (wb base : Nat) (w : World) (A : Option Addr) (m : Nat) (l : Bs) : Prop := ∀ W, Kw wb base w W → Sl W W.heap.size enc8 1 A m l
set_option maxRecDepth 100000 in
theorem wBuffer_any (wb base : Nat) (l l' : Bs) (A' : Option Addr) (m c' : Nat) (w : World) (h : WrB w wb base l) (hs : SlK wb base w A' m l') (hA : A' = none → m = 0 ∧ c' = 0) (hn : l.length ≤ 70368744177664) (hm : m ≤ 1073741824) :
    Calls Tryz.prog 77 #[.pointer (some ⟨wb, 0, none⟩), .slice A' m c'] w (WrPost (l ++ (beB m 4 ++ l')) wb base w) := by
  have HC := Lib.hid (wCount_any wb base l m w h hn hm)
  have HS := Lib.hid hs
  clear h hs
  go_enter Tryz.func77, Tryz.ntmps77
  go_wp2_with fail
  refine HC.out.mono ?_
  rintro e w1 ⟨rfl, hw, hk⟩
  have HK := Lib.hid hk
  have hP := wPut_any wb base (l ++ beB m 4) l' A' m c' w1 hw (HS.out _ hk) hA (by rw [List.length_append, beB_len]; omega)
  rw [List.append_assoc] at hP
  have HP := Lib.hid hP
  clear hw hk hP
  go_wp2_with fail
  refine HP.out.mono ?_
  rintro e w2 ⟨rfl, hw, hk⟩
  have HK2 := Lib.hid (HK.out.trans hk); have HW2 := Lib.hid hw
  clear hw hk
  go_wp2_with fail
  refine bodyPost_ret (results_none rfl _ _ _) rfl ?_
  exact ⟨rfl, HW2.out, HK2.out⟩
set_option maxRecDepth 100000 in
theorem wText_any (wb base : Nat) (l : Bs) (s : ByteArray) (w : World) (h : WrB w wb base l) (hn : l.length ≤ 70368744177664) (hm : s.size ≤ 1073741824) :
    Calls Tryz.prog 76 #[.pointer (some ⟨wb, 0, none⟩), .string s] w (WrPost (l ++ (beB s.size 4 ++ s.data.toList)) wb base w) := by
  have hrun := Lib.run_convert_string_bytes w 9 22 5 s Tryz.underlying9 Tryz.underlying22 Tryz.underlying5
  have hb1 : Below w.heap.size w (Lib.bytesWorld w 5 s) := ⟨rfl, rfl, rfl, by rw [Lib.bytesWorld_size]; omega, fun k hk => Lib.bytesWorld_at_old w 5 s k hk⟩
  have hlt := Nat.lt_of_lt_of_le h.lt h.size
  have HW := Lib.hid (h.below hb1)
  have HK := Lib.hid (Kw.of_below (wb := wb) (base := base) hb1)
  have HS := Lib.hid (show SlK wb base (Lib.bytesWorld w 5 s) (some ⟨w.heap.size, 0, none⟩) s.size s.data.toList from fun W hW =>
    ⟨by simp, fun _ => ⟨w.heap.size, 0, rfl, Nat.lt_of_lt_of_le (by rw [Lib.bytesWorld_size]; omega) hW.size, fun j hj a u hu => by
      have h1 := hW.other w.heap.size _ (Lib.bytesWorld_at_new w 5 s) (fun cs e => by injection e with _ _ e; simp at e) (by omega)
      have h2 := Lib.bytesWorld_cell w 5 s j hj
      rw [cellH (Lib.bytesWorld_at_new w 5 s)] at h2
      match a, hu with
      | 0, hu =>
        rw [cellH h1]
        simp only [Nat.mul_one, Nat.add_zero, Nat.zero_add]
        rw [h2, ← hu]
        simp only [enc8, List.getElem?_cons_zero]
        rw [getElem!_pos _ j (by simpa using hj)]
        simp [List.getD, hj]⟩⟩)
  generalize Lib.bytesWorld w 5 s = W1 at *
  clear h hb1
  go_enter Tryz.func76, Tryz.ntmps76
  go_wp2_with fail
  refine (wBuffer_any wb base l _ _ _ _ W1 HW.out HS.out (fun h => by cases h) hn hm).mono ?_
  rintro e w2 ⟨rfl, hw, hk⟩
  have HK2 := Lib.hid (HK.out.trans hk); have HW2 := Lib.hid hw
  clear hw hk
  go_wp2_with fail
  refine bodyPost_ret (results_none rfl _ _ _) rfl ?_
  exact ⟨rfl, HW2.out, HK2.out⟩
theorem eqBytesSome (a : Addr) (n c : Nat) (w : World) : (binOp .eql 22 (.slice (some a) n c) (.slice none 0 0)).run Tryz.prog w = .ok (.bool false) w := by kernel_rfl
/-- bytes in a row that the call made -/
def Row8 (w : World) (base : Nat) (A : Option Addr) (n c : Nat) (l : Bs) : Prop := w.ownsRow base 5 1 (.slice A n c) n (l.flatMap enc8)
theorem Row8.nil_cap {w : World} {base n c : Nat} {l : Bs} (h : Row8 w base none n c l) : n = 0 ∧ c = 0 := by
  rcases h.2 with ⟨e, e2⟩ | ⟨g, cap, cur, e, _⟩
  · injection e with e e5 e6
    exact ⟨e2, e6⟩
  · injection e with e; cases e
theorem Row8.sl {w : World} {base n c : Nat} {A : Option Addr} {l : Bs} (h : Row8 w base A n c l) (hl : l.length = n) : Sl w w.heap.size enc8 1 A n l := Sl.of_own enc8_len h hl
def Clone8 (n : Nat) (l : Bs) (w : World) (e : Ending) (w' : World) : Prop := (∃ A c, e = .returned (.slice A n c) ∧ Row8 w' w.heap.size A n c l) ∧ Below w.heap.size w w'
theorem eqBytesNil (w : World) : (binOp .eql 22 (.slice none 0 0) (.slice none 0 0)).run Tryz.prog w = .ok (.bool true) w := by kernel_rfl
set_option maxRecDepth 100000 in
theorem clone8_nil (w : World) : Calls Tryz.prog 84 #[.slice none 0 0] w fun e w' => e = .returned (.slice none 0 0) ∧ w' = w := by
  have hq := eqBytesNil
  go_enter Tryz.func84, Tryz.ntmps84
  go_wp2_with fail
  go_ret
  exact ⟨rfl, rfl⟩
set_option maxRecDepth 100000 in
theorem clone8_any (A : Option Addr) (n c : Nat) (l : Bs) (w : World) (hz : Sl w w.heap.size enc8 1 A n l) (hA : A = none → n = 0 ∧ c = 0) (hn : n ≤ 140737488355328) :
    Calls Tryz.prog 84 #[.slice A n c] w (Clone8 n l w) := by
  cases A with
  | none =>
    obtain ⟨rfl, rfl⟩ := hA rfl
    have hl : l = [] := List.length_eq_zero_iff.1 hz.len
    subst hl
    refine (clone8_nil w).mono ?_
    rintro e w' ⟨rfl, rfl⟩
    exact ⟨⟨none, 0, rfl, World.ownsRow_nil _ _ _ _⟩, Below.refl _ _⟩
  | some a =>
    have hb0 : Below w.heap.size w (w.alloc (.cells #[] 5)) := (Below.refl _ w).alloc (Nat.le_refl _) _
    have HS := Lib.hid (hz.belowMore hb0 hb0.size)
    have HB := Lib.hid hb0
    have hq := eqBytesSome a n c
    have HOW := Lib.hid (own_empty (T := 5) (k := 1) w)
    clear hz hA hb0
    go_enter Tryz.func84, Tryz.ntmps84
    go_wp2_with (at_builtin; refine wpList_app8 rfl _ _ rfl w.heap.size (some ⟨w.heap.size, 0, none⟩) 0 0 [] ?hx HOW.out (some a) n c l ?hy HS.out (fun e => by cases e) (by omega) HB.out.size ?hk)
    (try case hx => rfl)
    (try case hy => rfl)
    case hk =>
      intro A2 c2 w2 hv2 hg2
      have hb2 := own_belowG HOW.out hg2 HB.out.size
      have HV2 := Lib.hid hv2; have HB2 := Lib.hid (HB.out.trans hb2)
      clear hv2 hg2 hb2
      go_wp2_with fail
      go_ret
      exact ⟨⟨A2, c2, by simp, by unfold Row8; simpa using HV2.out⟩, HB2.out⟩
set_option maxRecDepth 100000 in
theorem wBytes_any (wb base : Nat) (l : Bs) (w : World) (h : WrB w wb base l) (hn : l.length ≤ 70368744177664) :
    Calls Tryz.prog 40 #[.pointer (some ⟨wb, 0, none⟩)] w (Clone8 l.length l w) := by
  obtain ⟨A, c, hcell, hrow⟩ := h.row
  have k0 : w.cell? ⟨wb, 0, none⟩ = some (.slice A l.length c) := by rw [cellH hcell]; rfl
  have HC := Lib.hid (clone8_any A l.length c l w (Row8.sl hrow rfl) (fun e => Row8.nil_cap (e ▸ hrow)) (by omega))
  clear h hcell hrow
  go_enter Tryz.func40, Tryz.ntmps40
  go_wp2_with fail
  refine HC.out.mono ?_
  rintro e w1 ⟨⟨A1, c1, rfl, hr⟩, hb⟩
  have HR := Lib.hid hr; have HB := Lib.hid hb
  clear hr hb
  go_wp2_with fail
  go_ret
  exact ⟨⟨A1, c1, rfl, HR.out⟩, HB.out⟩
end Go.Proofs.YthpjneobmmpbnaaGreatDoor
namespace Go.Proofs.YthpjneobmmpbnaaGreatDoor
open Go.RowKit Go.MapKept Go.Maps
section
variable {w w' : World} {rb : Nat} {ro ro' : List Nat} {A : Option Addr} {n c : Nat} {L : List KV}
end
theorem Fr.cell {own : List Nat} {w w' : World} (h : Fr own w w') {p : Addr} (hp : p.block < w.heap.size) (hn : p.block ∉ own) : w'.cell? p = w.cell? p := by
  have := h.block p.block hp hn
  obtain ⟨b, o, s⟩ := p
  simp only [World.cell?, this]
end Go.Proofs.YthpjneobmmpbnaaGreatDoor
namespace Go.Proofs.YthpjneobmmpbnaaGreatDoor
open Go.RowKit Go.MapKept Go.Maps
theorem keep1 {w w' : World} {a : Addr} {v : Value} (h : w.cell? a = some v) (hb : Below w.heap.size w w') : w'.cell? a = some v := (hb.cell (World.block_lt_of_cell? w _ h)).trans h
theorem heap_set_other (w : World) (b o : Nat) (v : Value) {g : Nat} (h : g ≠ b) : (w.setCell ⟨b, o, none⟩ v).heap[g]? = w.heap[g]? := Below.heap_setCell w ⟨b, o, none⟩ v g h
theorem fr_set (w : World) (b o : Nat) (v : Value) : Fr [b] w (w.setCell ⟨b, o, none⟩ v) := ⟨rfl, rfl, rfl, by simp [World.setCell], fun g _ hn => heap_set_other w b o v (by simpa using hn)⟩
end Go.Proofs.YthpjneobmmpbnaaGreatDoor

/- Layer 2 in memory: bytes of one's own, a Writer, a Reader. No condition but lengths. -/
import Derived.Test.YtbpmmmnphpkdjaaGreatDoorAppG
import Derived.Test.YtbpmmmnphpkdjaaGreatDoorJutP
import Derived.OwnWalk
import Derived.Deep.RegionWith
import Derived.Deep.RegionHeld3
import Derived.Lib.QuietBelow
namespace Go.Proofs.YtbpmmmnphpkdjaaGreatDoor
open Go.RowKit Go.MapKept Go.Maps
theorem heap_setJ {w : World} {b o : Nat} {cs : Array Value} {T : TypeId} (h : w.heap[b]? = some (.cells cs T (0, 0))) (v : Value) : (w.setCell ⟨b, o, none⟩ v).heap[b]? = some (.cells (cs.setIfInBounds o v) T (0, 0)) := by
  unfold World.setCell
  rw [Array.getElem?_modify, if_pos rfl, h]
  rfl
theorem keepJ {w w' : World} {a : Addr} {v : Value} (h : w.cell? a = some v) (hb : Below w.heap.size w w') : w'.cell? a = some v := (hb.cell (World.block_lt_of_cell? w _ h)).trans h
theorem heap_otherJ (w : World) (b o : Nat) (v : Value) {g : Nat} (h : g ≠ b) : (w.setCell ⟨b, o, none⟩ v).heap[g]? = w.heap[g]? := Below.heap_setCell w ⟨b, o, none⟩ v g h
theorem fr_setJ (w : World) (b o : Nat) (v : Value) : Fr [b] w (w.setCell ⟨b, o, none⟩ v) := ⟨rfl, rfl, rfl, by simp [World.setCell], fun g _ hn => heap_otherJ w b o v (by simpa using hn)⟩
theorem Fr.setJ {own : List Nat} {w w1 : World} (h : Fr own w w1) {b : Nat} (hb : b ∈ own) (o : Nat) (v : Value) : Fr own w (w1.setCell ⟨b, o, none⟩ v) := h.trans (fr_setJ w1 b o v) (fun g hg => .inl (by rw [List.mem_singleton.1 hg]; exact hb))
theorem Fr.cellJ {own : List Nat} {w w' : World} (h : Fr own w w') {p : Addr} (hp : p.block < w.heap.size) (hn : p.block ∉ own) : w'.cell? p = w.cell? p := by
  simp only [World.cell?, h.block p.block hp hn]
theorem Fr.grow {own : List Nat} {w w' : World} {row : Option Nat} (h : w.grownBy w' row) (hr : ∀ g, row = some g → g ∈ own) : Fr own w w' :=
  ⟨h.os, h.tape, h.output, h.size, fun g hg hn => h.block g hg fun e => hn (hr g e.symm)⟩
theorem Sl.fr {α : Type} [Inhabited α] {w w' : World} {B : Nat} {enc : α → List Value} {k n : Nat} {A : Option Addr} {zs : List α} {own : List Nat} (h : Sl w B enc k A n zs) (hf : Fr own w w') (hB : B ≤ w.heap.size) (ho : ∀ g ∈ own, B ≤ g) : Sl w' B enc k A n zs :=
  h.keep fun p hp => hf.cellJ (Nat.lt_of_lt_of_le hp hB) fun hm => absurd (ho _ hm) (by omega)
instance : Inhabited UInt8 := ⟨0⟩
theorem enc8_len (b : UInt8) : (enc8 b).length = 1 := rfl
theorem Sl.at8 {w : World} {B n : Nat} {A : Option Addr} {l : Bs} (h : Sl w B enc8 1 A n l) {j : Nat} (hj : j < n) : ∃ b off, A = some ⟨b, off, none⟩ ∧ b < B ∧ w.cell? ⟨b, off + j, none⟩ = some (.int .u8 (l[j]!.toNat : Int)) := by
  obtain ⟨b, off, e, hb, hc⟩ := h.cells hj
  refine ⟨b, off, e, hb, ?_⟩
  have := hc 0 _ rfl
  simpa using this
/-- append to bytes of one's own -/
theorem wpList_app8 {ops : Array Oper} {rest : List Oper} {o : Oper} {a : Act} {Q : Exit → Act → World → Prop} {w : World} (hgd : o.guard = none) (s x : Operand)
    (ho : o.op = .call { callee := .builtin .append, args := #[s, x], argTypes := #[41, 41] }) (base : Nat) (A : Option Addr) (n c : Nat) (l : Bs) (hs : a.eval s = .slice A n c)
    (hown : w.ownsRow base 5 1 (.slice A n c) n (l.flatMap enc8)) (A' : Option Addr) (m c' : Nat) (l' : Bs) (hx : a.eval x = .slice A' m c') (hsl : Sl w w.heap.size enc8 1 A' m l')
    (hA' : A' = none → m = 0 ∧ c' = 0) (hn : n + m ≤ 140737488355328) (hbase : base ≤ w.heap.size)
    (h : ∀ A2 c2 w', w'.ownsRow base 5 1 (.slice A2 (n + m) c2) (n + m) ((l ++ l').flatMap enc8) → w.grownBy w' (Value.slice A n c).ownBlock → wpList Tryz.prog ops Q rest (a.put o.dst (.slice A2 (n + m) c2)) w') : wpList Tryz.prog ops Q (o :: rest) a w := by
  have hinfo : (Tryz.prog.info? 5).map (fun i => (i.zero, i.size, i.bytes)) = some (some (.int .u8 0), 1, 1) := by kernel_rfl
  obtain ⟨i0, hi0, hz0, hz1, hz2⟩ := info_partsI hinfo
  cases A' with
  | none =>
    obtain ⟨rfl, rfl⟩ := hA' rfl
    have hl0 : l' = [] := List.length_eq_zero_iff.1 hsl.len
    subst hl0
    refine wpList_append_own_none hgd s x _ ho base _ i0 1 Tryz.underlying41 hi0 _ n _ hs hown hx ?_
    have := h A c w (by rw [List.append_nil]; exact hown) (World.grownBy.refl _ _)
    exact this
  | some a0 =>
    refine wpList_append_own w hgd s x _ ho base 5 i0 _ 1 1 Tryz.underlying41 hi0 hz0 hz1 hz2 (by decide) (by decide) _ n _ hs hown a0 m c' (l'.flatMap enc8) hx (by rw [flat_len enc8_len, hsl.len]) (Sl.news enc8_len (by decide) hsl) ?_ (by unfold maxLen; omega) (by omega) hbase ?_
    · intro u hu
      obtain ⟨x, _, hx⟩ := List.mem_flatMap.1 hu
      simp only [enc8, List.mem_singleton] at hx
      rw [hx]; rfl
    · intro v' w' h1 h2 _
      obtain ⟨A2, c2, rfl⟩ := own_formI h1
      refine h A2 c2 w' ?_ h2
      rw [List.flatMap_append]; exact h1
/-- what a Writer at wb, whose row lies at or above base, leaves as it was -/
structure Kw (wb base : Nat) (w w' : World) : Prop where
  os : w'.os = w.os
  tape : w'.tape = w.tape
  output : w'.output = w.output
  size : w.heap.size ≤ w'.heap.size
  low : ∀ g, g < base → g < w.heap.size → g ≠ wb → w'.heap[g]? = w.heap[g]?
  other : ∀ g o, w.heap[g]? = some o → (∀ cs, o ≠ .cells cs 5 (0, 0)) → g ≠ wb → w'.heap[g]? = some o
section
variable {wb base : Nat} {w w' w1 w2 : World}
theorem Kw.refl : Kw wb base w w := ⟨rfl, rfl, rfl, Nat.le_refl _, fun _ _ _ _ => rfl, fun _ _ h _ _ => h⟩
theorem Kw.trans (h : Kw wb base w w1) (k : Kw wb base w1 w2) : Kw wb base w w2 :=
  ⟨k.os.trans h.os, k.tape.trans h.tape, k.output.trans h.output, Nat.le_trans h.size k.size, fun g h1 h2 h3 => (k.low g h1 (Nat.lt_of_lt_of_le h2 h.size) h3).trans (h.low g h1 h2 h3), fun g o h1 h2 h3 => k.other g o (h.other g o h1 h2 h3) h2 h3⟩
theorem Kw.of_below (h : Below w.heap.size w w') : Kw wb base w w' :=
  ⟨h.os, h.tape, h.output, h.size, fun g _ h2 _ => h.block g h2, fun g _ h1 _ _ => (h.block g (Array.getElem?_eq_some_iff.1 h1).1).trans h1⟩
theorem Kw.set (h : Kw wb base w w1) (o : Nat) (v : Value) : Kw wb base w (w1.setCell ⟨wb, o, none⟩ v) :=
  ⟨h.os, h.tape, h.output, by simpa [World.setCell] using h.size, fun g h1 h2 h3 => (heap_otherJ w1 wb o v h3).trans (h.low g h1 h2 h3), fun g x h1 h2 h3 => (heap_otherJ w1 wb o v h3).trans (h.other g x h1 h2 h3)⟩
theorem Kw.below {B : Nat} (h : Kw wb base w w') (h1 : B ≤ wb) (h2 : B ≤ base) (h3 : B ≤ w.heap.size) : Below B w w' :=
  ⟨h.os, h.tape, h.output, h.size, fun g hg => h.low g (by omega) (by omega) (by omega)⟩
theorem Kw.cell {p : Addr} {v : Value} (h : Kw wb base w w') (hb : p.block < base) (hn : p.block ≠ wb) (hv : w.cell? p = some v) : w'.cell? p = some v := by
  have := h.low p.block hb (World.block_lt_of_cell? w _ hv) hn
  rw [← hv]
  simp only [World.cell?, this]
theorem Kw.more {base' : Nat} (h : Kw wb base w w') (hb : base' ≤ base) : Kw wb base' w w' := ⟨h.os, h.tape, h.output, h.size, fun g h1 => h.low g (by omega), h.other⟩
end
/-- a Writer that holds these bytes -/
structure WrB (w : World) (wb base : Nat) (l : Bs) : Prop where
  lt : wb < base
  size : base ≤ w.heap.size
  row : ∃ A c, w.heap[wb]? = some (.cells #[.slice A l.length c] 109 (0, 0)) ∧ w.ownsRow base 5 1 (.slice A l.length c) l.length (l.flatMap enc8)
theorem WrB.below {w w' : World} {wb base : Nat} {l : Bs} (h : WrB w wb base l) (hb : Below w.heap.size w w') : WrB w' wb base l := by
  obtain ⟨A, c, h1, h2⟩ := h.row
  exact ⟨h.lt, Nat.le_trans h.size hb.size, A, c, (hb.block wb (Nat.lt_of_lt_of_le h.lt h.size)).trans h1, own_later h2 hb⟩
/-- what a Writer's call leaves -/
def WrPost (l : Bs) (wb base : Nat) (w : World) (e : Ending) (w' : World) : Prop := e = .returned (.tuple #[]) ∧ WrB w' wb base l ∧ Kw wb base w w'
theorem Kw.grown {wb base n c : Nat} {A : Option Addr} {w w' : World} {xs : List Value} (ho : w.ownsRow base 5 1 (.slice A n c) n xs) (hg : w.grownBy w' (Value.slice A n c).ownBlock) : Kw wb base w w' := by
  refine ⟨hg.os, hg.tape, hg.output, hg.size, fun g h1 h2 h3 => hg.block g h2 fun e => ?_, fun g _ h1 h2 h3 => (hg.block g (Array.getElem?_eq_some_iff.1 h1).1 fun e => ?_).trans h1⟩
  · rcases ho.2 with ⟨e1, _⟩ | ⟨g', cap, cur, e1, e2, _⟩
    · rw [e1] at e; cases e
    · rw [e1] at e; injection e with e; simp only at e; omega
  · rcases ho.2 with ⟨e1, _⟩ | ⟨g', cap, cur, e1, e2, e3, _⟩
    · rw [e1] at e; cases e
    · rw [e1] at e; injection e with e; simp only at e
      subst e
      rw [h1] at e3
      injection e3 with e3
      exact h2 _ e3
theorem WrB.put {w w1 : World} {wb base c c2 : Nat} {A A2 : Option Addr} {l l2 : Bs} (h : WrB w wb base l) (hc : w.heap[wb]? = some (.cells #[.slice A l.length c] 109 (0, 0))) (ho : w.ownsRow base 5 1 (.slice A l.length c) l.length (l.flatMap enc8))
    (hg : w.grownBy w1 (Value.slice A l.length c).ownBlock) (hr : w1.ownsRow base 5 1 (.slice A2 l2.length c2) l2.length (l2.flatMap enc8)) :
    w1.heap[wb]? = some (.cells #[.slice A l.length c] 109 (0, 0)) ∧ WrB (w1.setCell ⟨wb, 0, none⟩ (.slice A2 l2.length c2)) wb base l2 ∧ Kw wb base w (w1.setCell ⟨wb, 0, none⟩ (.slice A2 l2.length c2)) := by
  have hk : Kw wb base w w1 := Kw.grown ho hg
  have hc1 : w1.heap[wb]? = some (.cells #[.slice A l.length c] 109 (0, 0)) := (hg.block wb (Nat.lt_of_lt_of_le h.lt h.size) fun e => by
    rcases ho.2 with ⟨e1, _⟩ | ⟨g', cap, cur, e1, e2, _⟩
    · rw [e1] at e; cases e
    · rw [e1] at e; injection e with e; simp only at e; have := h.lt; omega).trans hc
  refine ⟨hc1, ⟨h.lt, ?_, A2, c2, heap_setJ hc1 _, ?_⟩, hk.set 0 _⟩
  · have := hk.size; have := h.size; simp only [World.setCell, Array.size_modify]; omega
  · exact own_fr hr (fr_setJ w1 wb 0 _) fun g hg' => by rw [List.mem_singleton.1 hg']; exact h.lt
/-- a Reader that stands at p -/
structure Rd (w : World) (rb : Nat) (A : Option Addr) (n c : Nat) (l : Bs) (p : Nat) : Prop where
  cell : w.heap[rb]? = some (.cells #[.slice A n c, .int .i64 (p : Int), .bool false] 180 (0, 0))
  sl : Sl w rb enc8 1 A n l
  at_ : p ≤ n
  small : n ≤ 1048576
  cap : n ≤ c
  nil : A = none → n = 0 ∧ c = 0
theorem Rd.lt {w : World} {rb : Nat} {A : Option Addr} {n c : Nat} {l : Bs} {p : Nat} (h : Rd w rb A n c l p) : rb < w.heap.size := (Array.getElem?_eq_some_iff.1 h.cell).1
theorem Rd.fr {w w' : World} {rb : Nat} {A : Option Addr} {n c : Nat} {l : Bs} {p : Nat} {own : List Nat} (h : Rd w rb A n c l p) (hf : Fr own w w') (ho : ∀ g ∈ own, rb < g) : Rd w' rb A n c l p :=
  ⟨(hf.block rb h.lt fun hm => absurd (ho _ hm) (by omega)).trans h.cell, h.sl.fr hf (Nat.le_of_lt h.lt) fun g hg => Nat.le_of_lt (ho g hg), h.at_, h.small, h.cap, h.nil⟩
theorem Rd.below {w w' : World} {rb : Nat} {A : Option Addr} {n c : Nat} {l : Bs} {p : Nat} (h : Rd w rb A n c l p) (hb : Below w.heap.size w w') : Rd w' rb A n c l p := h.fr (Fr.of_below (own := []) hb) (by simp)
/-- the Reader has gone on -/
theorem Rd.go {w w' : World} {rb : Nat} {A : Option Addr} {n c : Nat} {l : Bs} {p q : Nat} (h : Rd w rb A n c l p) (hf : Fr [rb] w w') (hc : w'.heap[rb]? = some (.cells #[.slice A n c, .int .i64 (q : Int), .bool false] 180 (0, 0))) (hq : q ≤ n) : Rd w' rb A n c l q :=
  ⟨hc, h.sl.fr hf (Nat.le_of_lt h.lt) (fun g hg => by rw [List.mem_singleton.1 hg]; exact Nat.le_refl _), hq, h.small, h.cap, h.nil⟩
/-- the failure that a Reader panics with -/
def failV (rb : Nat) (k : Int) : PanicEntry := { v := .iface 182 (.agg #[.pointer (some ⟨rb, 0, none⟩), .int .i64 k]), recovered := false }
/-- how a reading call ends, by what is to be read -/
def RdOut {α : Type} (rb : Nat) (A : Option Addr) (n c : Nat) (l : Bs) (w : World) (x : PR α) (R : α → Value → World → Prop) (e : Ending) (w' : World) : Prop :=
  match x with
  | .ok (v, q) => (∃ u, e = .returned u ∧ R v u w') ∧ Rd w' rb A n c l q ∧ Fr [rb] w w'
  | .error (q, k) => e = .panicked [failV rb k] ∧ Rd w' rb A n c l q ∧ Fr [rb] w w'
end Go.Proofs.YtbpmmmnphpkdjaaGreatDoor

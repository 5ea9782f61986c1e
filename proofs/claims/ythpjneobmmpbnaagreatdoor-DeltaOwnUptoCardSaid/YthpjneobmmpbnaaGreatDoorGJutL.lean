/- Layer 2 in memory: bytes of one's own, a Writer, a Reader. No condition but lengths. -/
import Derived.Test.YthpjneobmmpbnaaGreatDoorGRefD
import Derived.Test.YthpjneobmmpbnaaGreatDoorGJutP
import Derived.OwnWalk
import Derived.Deep.RegionWith
import Derived.Deep.RegionHeld3
import Derived.Lib.QuietBelow
import Derived.Lib.AppendStr
import Derived.Lib.ConvBytes
import Derived.Test.YthpjneobmmpbnaaGreatDoorGAclDec
import Derived.Laws.Bits64b
import Derived.Shelf.Unicode.ValidAny
import Derived.Lib.BufferRead
namespace Go.Proofs.YthpjneobmmpbnaaGreatDoor
open Go.RowKit Go.MapKept Go.Maps
theorem heap_setJ {w : World} {b o : Nat} {cs : Array Value} {T : TypeId} (h : w.heap[b]? = some (.cells cs T (0, 0))) (v : Value) : (w.setCell ⟨b, o, none⟩ v).heap[b]? = some (.cells (cs.setIfInBounds o v) T (0, 0)) := by
  unfold World.setCell
  rw [Array.getElem?_modify, if_pos rfl, h]
  rfl
theorem heap_otherJ (w : World) (b o : Nat) (v : Value) {g : Nat} (h : g ≠ b) : (w.setCell ⟨b, o, none⟩ v).heap[g]? = w.heap[g]? := Below.heap_setCell w ⟨b, o, none⟩ v g h
theorem fr_setJ (w : World) (b o : Nat) (v : Value) : Fr [b] w (w.setCell ⟨b, o, none⟩ v) := ⟨rfl, rfl, rfl, by simp [World.setCell], fun g _ hn => heap_otherJ w b o v (by simpa using hn)⟩
theorem Fr.setJ {own : List Nat} {w w1 : World} (h : Fr own w w1) {b : Nat} (hb : b ∈ own) (o : Nat) (v : Value) : Fr own w (w1.setCell ⟨b, o, none⟩ v) := h.trans (fr_setJ w1 b o v) (fun g hg => .inl (by rw [List.mem_singleton.1 hg]; exact hb))
theorem Fr.cellJ {own : List Nat} {w w' : World} (h : Fr own w w') {p : Addr} (hp : p.block < w.heap.size) (hn : p.block ∉ own) : w'.cell? p = w.cell? p := by
  simp only [World.cell?, h.block p.block hp hn]
theorem Fr.grow {own : List Nat} {w w' : World} {row : Option Nat} (h : w.grownBy w' row) (hr : ∀ g, row = some g → g ∈ own) : Fr own w w' :=
  ⟨h.os, h.tape, h.output, h.size, fun g hg hn => h.block g hg fun e => hn (hr g e.symm)⟩
theorem Sl.fr {α : Type} [Inhabited α] {w w' : World} {B : Nat} {enc : α → List Value} {k n : Nat} {A : Option Addr} {zs : List α} {own : List Nat} (h : Sl w B enc k A n zs) (hf : Fr own w w') (hB : B ≤ w.heap.size) (ho : ∀ g ∈ own, B ≤ g) : Sl w' B enc k A n zs :=
  h.keep fun p hp => hf.cellJ (Nat.lt_of_lt_of_le hp hB) fun hm => absurd (ho _ hm) (by omega)
instance : Inhabited UInt8 := ⟨0⟩
theorem enc8_len (b : UInt8) : (enc8 b).length = 1 := rfl
theorem Sl.at8 {w : World} {B n : Nat} {A : Option Addr} {l : Bs} (h : Sl w B enc8 1 A n l) {j : Nat} (hj : j < n) : ∃ b off, A = some ⟨b, off, none⟩ ∧ b < B ∧ w.cell? ⟨b, off + j, none⟩ = some (.int .u8 (l[j]!.toNat : Int)) := by
  obtain ⟨b, off, e, hb, hc⟩ := h.cells hj
  refine ⟨b, off, e, hb, ?_⟩
  have := hc 0 _ rfl
  simpa using this
/-- append to bytes of one's own -/
theorem wpList_app8 {ops : Array Oper} {rest : List Oper} {o : Oper} {a : Act} {Q : Exit → Act → World → Prop} {w : World} (hgd : o.guard = none) (s x : Operand)
    (ho : o.op = .call { callee := .builtin .append, args := #[s, x], argTypes := #[22, 22] }) (base : Nat) (A : Option Addr) (n c : Nat) (l : Bs) (hs : a.eval s = .slice A n c)
    (hown : w.ownsRow base 5 1 (.slice A n c) n (l.flatMap enc8)) (A' : Option Addr) (m c' : Nat) (l' : Bs) (hx : a.eval x = .slice A' m c') (hsl : Sl w w.heap.size enc8 1 A' m l')
    (hA' : A' = none → m = 0 ∧ c' = 0) (hn : n + m ≤ 140737488355328) (hbase : base ≤ w.heap.size)
    (h : ∀ A2 c2 w', w'.ownsRow base 5 1 (.slice A2 (n + m) c2) (n + m) ((l ++ l').flatMap enc8) → w.grownBy w' (Value.slice A n c).ownBlock → wpList Tryz.prog ops Q rest (a.put o.dst (.slice A2 (n + m) c2)) w') : wpList Tryz.prog ops Q (o :: rest) a w := by
  have hinfo : (Tryz.prog.info? 5).map (fun i => (i.zero, i.size, i.bytes)) = some (some (.int .u8 0), 1, 1) := by kernel_rfl
  obtain ⟨i0, hi0, hz0, hz1, hz2⟩ := info_partsI hinfo
  cases A' with
  | none =>
    obtain ⟨rfl, rfl⟩ := hA' rfl
    have hl0 : l' = [] := List.length_eq_zero_iff.1 hsl.len
    subst hl0
    refine wpList_append_own_none hgd s x _ ho base _ i0 1 Tryz.underlying22 hi0 _ n _ hs hown hx ?_
    have := h A c w (by rw [List.append_nil]; exact hown) (World.grownBy.refl _ _)
    exact this
  | some a0 =>
    refine wpList_append_own w hgd s x _ ho base 5 i0 _ 1 1 Tryz.underlying22 hi0 hz0 hz1 hz2 (by decide) (by decide) _ n _ hs hown a0 m c' (l'.flatMap enc8) hx (by rw [flat_len enc8_len, hsl.len]) (Sl.news enc8_len (by decide) hsl) ?_ (by unfold maxLen; omega) (by omega) hbase ?_
    · intro u hu
      obtain ⟨x, _, hx⟩ := List.mem_flatMap.1 hu
      simp only [enc8, List.mem_singleton] at hx
      rw [hx]; rfl
    · intro v' w' h1 h2 _
      obtain ⟨A2, c2, rfl⟩ := own_formI h1
      refine h A2 c2 w' ?_ h2
      rw [List.flatMap_append]; exact h1
/-- what a Writer at wb, whose row lies at or above base, leaves as it was -/
structure Kw (wb base : Nat) (w w' : World) : Prop where
  os : w'.os = w.os
  tape : w'.tape = w.tape
  output : w'.output = w.output
  size : w.heap.size ≤ w'.heap.size
  low : ∀ g, g < base → g < w.heap.size → g ≠ wb → w'.heap[g]? = w.heap[g]?
  other : ∀ g o, w.heap[g]? = some o → (∀ cs, o ≠ .cells cs 5 (0, 0)) → g ≠ wb → w'.heap[g]? = some o
section
variable {wb base : Nat} {w w' w1 w2 : World}
theorem Kw.refl : Kw wb base w w := ⟨rfl, rfl, rfl, Nat.le_refl _, fun _ _ _ _ => rfl, fun _ _ h _ _ => h⟩
theorem Kw.trans (h : Kw wb base w w1) (k : Kw wb base w1 w2) : Kw wb base w w2 :=
  ⟨k.os.trans h.os, k.tape.trans h.tape, k.output.trans h.output, Nat.le_trans h.size k.size, fun g h1 h2 h3 => (k.low g h1 (Nat.lt_of_lt_of_le h2 h.size) h3).trans (h.low g h1 h2 h3), fun g o h1 h2 h3 => k.other g o (h.other g o h1 h2 h3) h2 h3⟩
theorem Kw.of_below (h : Below w.heap.size w w') : Kw wb base w w' :=
  ⟨h.os, h.tape, h.output, h.size, fun g _ h2 _ => h.block g h2, fun g _ h1 _ _ => (h.block g (Array.getElem?_eq_some_iff.1 h1).1).trans h1⟩
theorem Kw.set (h : Kw wb base w w1) (o : Nat) (v : Value) : Kw wb base w (w1.setCell ⟨wb, o, none⟩ v) :=
  ⟨h.os, h.tape, h.output, by simpa [World.setCell] using h.size, fun g h1 h2 h3 => (heap_otherJ w1 wb o v h3).trans (h.low g h1 h2 h3), fun g x h1 h2 h3 => (heap_otherJ w1 wb o v h3).trans (h.other g x h1 h2 h3)⟩
theorem Kw.below {B : Nat} (h : Kw wb base w w') (h1 : B ≤ wb) (h2 : B ≤ base) (h3 : B ≤ w.heap.size) : Below B w w' :=
  ⟨h.os, h.tape, h.output, h.size, fun g hg => h.low g (by omega) (by omega) (by omega)⟩
theorem Kw.cell {p : Addr} {v : Value} (h : Kw wb base w w') (hb : p.block < base) (hn : p.block ≠ wb) (hv : w.cell? p = some v) : w'.cell? p = some v := by
  have := h.low p.block hb (World.block_lt_of_cell? w _ hv) hn
  rw [← hv]
  simp only [World.cell?, this]
theorem Kw.more {base' : Nat} (h : Kw wb base w w') (hb : base' ≤ base) : Kw wb base' w w' := ⟨h.os, h.tape, h.output, h.size, fun g h1 => h.low g (by omega), h.other⟩
end
/-- a Writer that holds these bytes -/
structure WrB (w : World) (wb base : Nat) (l : Bs) : Prop where
  lt : wb < base
  size : base ≤ w.heap.size
  row : ∃ A c, w.heap[wb]? = some (.cells #[.slice A l.length c] 69 (0, 0)) ∧ w.ownsRow base 5 1 (.slice A l.length c) l.length (l.flatMap enc8)
theorem WrB.below {w w' : World} {wb base : Nat} {l : Bs} (h : WrB w wb base l) (hb : Below w.heap.size w w') : WrB w' wb base l := by
  obtain ⟨A, c, h1, h2⟩ := h.row
  exact ⟨h.lt, Nat.le_trans h.size hb.size, A, c, (hb.block wb (Nat.lt_of_lt_of_le h.lt h.size)).trans h1, own_later h2 hb⟩
/-- what a Writer's call leaves -/
def WrPost (l : Bs) (wb base : Nat) (w : World) (e : Ending) (w' : World) : Prop := e = .returned (.tuple #[]) ∧ WrB w' wb base l ∧ Kw wb base w w'
theorem Kw.grown {wb base n c : Nat} {A : Option Addr} {w w' : World} {xs : List Value} (ho : w.ownsRow base 5 1 (.slice A n c) n xs) (hg : w.grownBy w' (Value.slice A n c).ownBlock) : Kw wb base w w' := by
  refine ⟨hg.os, hg.tape, hg.output, hg.size, fun g h1 h2 h3 => hg.block g h2 fun e => ?_, fun g _ h1 h2 h3 => (hg.block g (Array.getElem?_eq_some_iff.1 h1).1 fun e => ?_).trans h1⟩
  · rcases ho.2 with ⟨e1, _⟩ | ⟨g', cap, cur, e1, e2, _⟩
    · rw [e1] at e; cases e
    · rw [e1] at e; injection e with e; simp only at e; omega
  · rcases ho.2 with ⟨e1, _⟩ | ⟨g', cap, cur, e1, e2, e3, _⟩
    · rw [e1] at e; cases e
    · rw [e1] at e; injection e with e; simp only at e
      subst e
      rw [h1] at e3
      injection e3 with e3
      exact h2 _ e3
theorem WrB.put {w w1 : World} {wb base c c2 : Nat} {A A2 : Option Addr} {l l2 : Bs} (h : WrB w wb base l) (hc : w.heap[wb]? = some (.cells #[.slice A l.length c] 69 (0, 0))) (ho : w.ownsRow base 5 1 (.slice A l.length c) l.length (l.flatMap enc8))
    (hg : w.grownBy w1 (Value.slice A l.length c).ownBlock) (hr : w1.ownsRow base 5 1 (.slice A2 l2.length c2) l2.length (l2.flatMap enc8)) :
    w1.heap[wb]? = some (.cells #[.slice A l.length c] 69 (0, 0)) ∧ WrB (w1.setCell ⟨wb, 0, none⟩ (.slice A2 l2.length c2)) wb base l2 ∧ Kw wb base w (w1.setCell ⟨wb, 0, none⟩ (.slice A2 l2.length c2)) := by
  have hk : Kw wb base w w1 := Kw.grown ho hg
  have hc1 : w1.heap[wb]? = some (.cells #[.slice A l.length c] 69 (0, 0)) := (hg.block wb (Nat.lt_of_lt_of_le h.lt h.size) fun e => by
    rcases ho.2 with ⟨e1, _⟩ | ⟨g', cap, cur, e1, e2, _⟩
    · rw [e1] at e; cases e
    · rw [e1] at e; injection e with e; simp only at e; have := h.lt; omega).trans hc
  refine ⟨hc1, ⟨h.lt, ?_, A2, c2, heap_setJ hc1 _, ?_⟩, hk.set 0 _⟩
  · have := hk.size; have := h.size; simp only [World.setCell, Array.size_modify]; omega
  · exact own_fr hr (fr_setJ w1 wb 0 _) fun g hg' => by rw [List.mem_singleton.1 hg']; exact h.lt
/-- a Reader that stands at p -/
structure Rd (w : World) (rb : Nat) (A : Option Addr) (n c : Nat) (l : Bs) (p : Nat) : Prop where
  cell : w.heap[rb]? = some (.cells #[.slice A n c, .int .i64 (p : Int), .bool false] 187 (0, 0))
  sl : Sl w rb enc8 1 A n l
  at_ : p ≤ n
  small : n ≤ 1099511627776
  cap : n ≤ c
  nil : A = none → n = 0 ∧ c = 0
theorem Rd.lt {w : World} {rb : Nat} {A : Option Addr} {n c : Nat} {l : Bs} {p : Nat} (h : Rd w rb A n c l p) : rb < w.heap.size := (Array.getElem?_eq_some_iff.1 h.cell).1
theorem Rd.fr {w w' : World} {rb : Nat} {A : Option Addr} {n c : Nat} {l : Bs} {p : Nat} {own : List Nat} (h : Rd w rb A n c l p) (hf : Fr own w w') (ho : ∀ g ∈ own, rb < g) : Rd w' rb A n c l p :=
  ⟨(hf.block rb h.lt fun hm => absurd (ho _ hm) (by omega)).trans h.cell, h.sl.fr hf (Nat.le_of_lt h.lt) fun g hg => Nat.le_of_lt (ho g hg), h.at_, h.small, h.cap, h.nil⟩
theorem Rd.below {w w' : World} {rb : Nat} {A : Option Addr} {n c : Nat} {l : Bs} {p : Nat} (h : Rd w rb A n c l p) (hb : Below w.heap.size w w') : Rd w' rb A n c l p := h.fr (Fr.of_below (own := []) hb) (by simp)
/-- the Reader has gone on -/
theorem Rd.go {w w' : World} {rb : Nat} {A : Option Addr} {n c : Nat} {l : Bs} {p q : Nat} (h : Rd w rb A n c l p) (hf : Fr [rb] w w') (hc : w'.heap[rb]? = some (.cells #[.slice A n c, .int .i64 (q : Int), .bool false] 187 (0, 0))) (hq : q ≤ n) : Rd w' rb A n c l q :=
  ⟨hc, h.sl.fr hf (Nat.le_of_lt h.lt) (fun g hg => by rw [List.mem_singleton.1 hg]; exact Nat.le_refl _), hq, h.small, h.cap, h.nil⟩
/-- the failure that a Reader panics with -/
def failV (rb : Nat) (k : Int) : PanicEntry := { v := .iface 140 (.agg #[.pointer (some ⟨rb, 0, none⟩), .int .i64 k]), recovered := false }
/-- how a reading call ends, by what is to be read -/
def RdOut {α : Type} (rb : Nat) (A : Option Addr) (n c : Nat) (l : Bs) (w : World) (x : PR α) (R : α → Value → World → Prop) (e : Ending) (w' : World) : Prop :=
  match x with
  | .ok (v, q) => (∃ u, e = .returned u ∧ R v u w') ∧ Rd w' rb A n c l q ∧ Fr [rb] w w'
  | .error (q, k) => e = .panicked [failV rb k] ∧ Rd w' rb A n c l q ∧ Fr [rb] w w'
end Go.Proofs.YthpjneobmmpbnaaGreatDoor
namespace Go.Proofs.YthpjneobmmpbnaaGreatDoor
open Go.RowKit Go.MapKept Go.Maps
set_option maxRecDepth 100000 in
theorem wPut_any (wb base : Nat) (l l' : Bs) (A' : Option Addr) (m c' : Nat) (w : World) (h : WrB w wb base l) (hs : Sl w w.heap.size enc8 1 A' m l') (hA : A' = none → m = 0 ∧ c' = 0) (hn : l.length + m ≤ 140737488355328) :
    Calls Tryz.prog 136 #[.pointer (some ⟨wb, 0, none⟩), .slice A' m c'] w (WrPost (l ++ l') wb base w) := by
  obtain ⟨A, c, hcell, hrow⟩ := h.row
  have k0 : w.cell? ⟨wb, 0, none⟩ = some (.slice A l.length c) := by rw [cellH hcell]; rfl
  have HW := Lib.hid h; have HS := Lib.hid hs; have HA := Lib.hid hA; have HC := Lib.hid hcell; have HR := Lib.hid hrow
  have HL := Lib.hid hs.len
  clear h hs hA hcell hrow
  go_enter Tryz.func136, Tryz.ntmps136
  go_wp2_with (at_builtin; refine wpList_app8 rfl _ _ rfl base A l.length c l ?hx HR.out A' m c' l' ?hy HS.out HA.out hn HW.out.size ?hk)
  (try case hx => rfl)
  (try case hy => rfl)
  case hk =>
    intro A2 c2 w1 hr hg
    rw [show l.length + m = (l ++ l').length by rw [List.length_append, HL.out], ← List.flatMap_append] at hr
    rw [show l.length + m = (l ++ l').length by rw [List.length_append, HL.out]]
    obtain ⟨hc1, hw2, hk2⟩ := HW.out.put HC.out HR.out hg hr
    rw [List.length_append] at hw2 hk2
    have HW2 := Lib.hid hw2; have HK2 := Lib.hid hk2
    have k1 : w1.cell? ⟨wb, 0, none⟩ = some (.slice A l.length c) := by rw [cellH hc1]; rfl
    have f1 : w1.frozen? ⟨wb, 0, none⟩ = false := by simp [World.frozen?, hc1]
    clear hr hg hc1 hw2 hk2 k0
    go_wp2_with fail
    refine bodyPost_ret (results_none rfl _ _ _) rfl ?_
    exact ⟨rfl, HW2.out, HK2.out⟩
theorem beB_at (x : Nat) : ∀ (n j : Nat), j < n → (beB x n)[j]! = UInt8.ofNat (x / 256 ^ (n - 1 - j))
  | n + 1, 0, _ => by simp [beB]
  | n + 1, j + 1, h => by
    rw [beB]
    have := beB_at x n j (by omega)
    simp only [List.getElem!_cons_succ]
    rw [this]
    congr 3
    omega
theorem beB_step (x : Nat) {n r : Nat} (h1 : 1 ≤ r) (h2 : r ≤ n) : (beB x n).take (n - (r - 1)) = (beB x n).take (n - r) ++ [UInt8.ofNat (x / 256 ^ (r - 1))] := by
  have hl := beB_len x n
  rw [show n - (r - 1) = n - r + 1 by omega, List.take_succ_eq_append_getElem (by omega)]
  congr 2
  have := beB_at x n (n - r) (by omega)
  rw [getElem!_pos _ _ (by omega)] at this
  rw [this]
  congr 3
  omega
theorem byte_of (x r : Nat) : ((UInt8.ofNat (x / 256 ^ (r - 1))).toNat : Int) = (x : Int) / 2 ^ (8 * (r - 1)) % 256 := by
  have h : (256 : Nat) ^ (r - 1) = 2 ^ (8 * (r - 1)) := by rw [Nat.pow_mul]
  rw [UInt8.toNat_ofNat', h]
  simp
/-- the bytes of a number, some of them written -/
def NmR (wb base nb x : Nat) (l : Bs) (w : World) (i : Value) (wr : World) : Prop := ∃ r : Nat, i = .int .i64 ((r : Int) - 1) ∧ r ≤ nb ∧ WrB wr wb base (l ++ (beB x nb).take (nb - r)) ∧ Kw wb base w wr
set_option maxRecDepth 100000 in
theorem number_any (wb base nb x : Nat) (l : Bs) (w : World) (h : WrB w wb base l) (hn : l.length ≤ 70368744177664) (hb : nb = 4 ∨ nb = 8) :
    Calls Tryz.prog 75 #[.pointer (some ⟨wb, 0, none⟩), .int .u64 (x : Int), .int .i64 (nb : Int)] w (WrPost (l ++ beB x nb) wb base w) := by
  have HW := Lib.hid h
  have hb8 : nb ≤ 8 := by omega
  clear h hb
  go_enter Tryz.func75, Tryz.ntmps75
  go_wp2_with fail
  go_loopw [6] (fun i wr => NmR wb base nb x l w i wr) (fun i _ => (RowKit.intOf i + 1).toNat)
  case atStart => exact ⟨nb, rfl, Nat.le_refl _, by rw [Nat.sub_self, List.take_zero, List.append_nil]; exact HW.out, Kw.refl⟩
  case round =>
    obtain ⟨r, rfl, hr, hw, hk⟩ := hrel
    have HW1 := Lib.hid hw; have HK := Lib.hid hk
    clear hw hk
    by_cases h0 : 1 ≤ r
    · have h1 : ((r : Int) - 1) ≥ 0 := by omega
      have hb1 : Below wr.heap.size wr (wr.alloc (.cells #[.int .u8 ((x : Int) / 2 ^ (8 * (r - 1)) % 256)] 5)) := (Below.refl _ wr).alloc (Nat.le_refl _) _
      have HW2 := Lib.hid (HW1.out.below hb1)
      have HK2 := Lib.hid (HK.out.trans (Kw.of_below hb1))
      have HS2 := Lib.hid (show Sl (wr.alloc (.cells #[.int .u8 ((x : Int) / 2 ^ (8 * (r - 1)) % 256)] 5)) (wr.alloc (.cells #[.int .u8 ((x : Int) / 2 ^ (8 * (r - 1)) % 256)] 5)).heap.size enc8 1 (some ⟨wr.heap.size, 0, none⟩) 1 [UInt8.ofNat (x / 256 ^ (r - 1))] from
        ⟨rfl, fun _ => ⟨wr.heap.size, 0, rfl, by simp, fun j hj a u hu => by
          have hj0 : j = 0 := by omega
          subst hj0
          rw [cellH (heap_alloc_new wr _), ← byte_of x r]
          match a, hu with
          | 0, hu => exact hu⟩⟩)
      have HL := Lib.hid (show (l ++ (beB x nb).take (nb - r)).length + 1 ≤ 140737488355328 by
        rw [List.length_append, List.length_take, beB_len]; omega)
      have HT := Lib.hid (beB_step x h0 hr)
      clear hb1
      go_wp2_with fail
      refine (wPut_any wb base _ _ _ _ _ _ HW2.out HS2.out (fun h => by cases h) HL.out).mono ?_
      rintro e w3 ⟨rfl, hw3, hk3⟩
      have HW3 := Lib.hid (show WrB w3 wb base (l ++ (beB x nb).take (nb - (r - 1))) by rw [HT.out, ← List.append_assoc]; exact hw3)
      have HK3 := Lib.hid (HK2.out.trans hk3)
      clear hw3 hk3
      go_wp2_with fail
      go_roundw
      case rel => exact ⟨r - 1, by go_num, by omega, HW3.out, HK3.out⟩
      case measure => simp [RowKit.intOf]; omega
    · have h1 : ¬ ((r : Int) - 1) ≥ 0 := by omega
      have hr0 : r = 0 := by omega
      subst hr0
      have HW3 := Lib.hid (show WrB wr wb base (l ++ beB x nb) by
        have := HW1.out
        rwa [Nat.sub_zero, List.take_of_length_le (by rw [beB_len]; exact Nat.le_refl _)] at this)
      go_wp2_with fail
      refine bodyPost_ret (results_none rfl _ _ _) rfl ?_
      exact ⟨rfl, HW3.out, HK.out⟩
end Go.Proofs.YthpjneobmmpbnaaGreatDoor
namespace Go.Proofs.YthpjneobmmpbnaaGreatDoor
open Go.RowKit Go.MapKept Go.Maps
def m32 (n : Int) : Nat := (n % 4294967296).toNat
def m64 (n : Int) : Nat := (n % 18446744073709551616).toNat
theorem m32_cast (n : Int) : ((m32 n : Nat) : Int) = n % 4294967296 := Int.toNat_of_nonneg (Int.emod_nonneg _ (by decide))
theorem m64_cast (n : Int) : ((m64 n : Nat) : Int) = n % 18446744073709551616 := Int.toNat_of_nonneg (Int.emod_nonneg _ (by decide))
set_option maxRecDepth 100000 in
theorem wInt_any (wb base : Nat) (l : Bs) (n : Int) (w : World) (h : WrB w wb base l) (hn : l.length ≤ 70368744177664) :
    Calls Tryz.prog 38 #[.pointer (some ⟨wb, 0, none⟩), .int .i32 n] w (WrPost (l ++ beB (m32 n) 4) wb base w) := by
  have HC := Lib.hid (number_any wb base 4 (m32 n) l w h hn (.inl rfl))
  rw [m32_cast] at HC
  clear h
  go_enter Tryz.func38, Tryz.ntmps38
  go_wp2_with fail
  refine HC.out.mono ?_
  rintro e w1 ⟨rfl, hw, hk⟩
  go_wp2_with fail
  refine bodyPost_ret (results_none rfl _ _ _) rfl ?_
  exact ⟨rfl, hw, hk⟩
set_option maxRecDepth 100000 in
theorem wLong_any (wb base : Nat) (l : Bs) (n : Int) (w : World) (h : WrB w wb base l) (hn : l.length ≤ 70368744177664) :
    Calls Tryz.prog 37 #[.pointer (some ⟨wb, 0, none⟩), .int .i64 n] w (WrPost (l ++ beB (m64 n) 8) wb base w) := by
  have HC := Lib.hid (number_any wb base 8 (m64 n) l w h hn (.inr rfl))
  rw [m64_cast] at HC
  clear h
  go_enter Tryz.func37, Tryz.ntmps37
  go_wp2_with fail
  refine HC.out.mono ?_
  rintro e w1 ⟨rfl, hw, hk⟩
  go_wp2_with fail
  refine bodyPost_ret (results_none rfl _ _ _) rfl ?_
  exact ⟨rfl, hw, hk⟩
set_option maxRecDepth 100000 in
theorem wCount_any (wb base : Nat) (l : Bs) (n : Nat) (w : World) (h : WrB w wb base l) (hn : l.length ≤ 70368744177664) (hm : n ≤ 1073741824) :
    Calls Tryz.prog 137 #[.pointer (some ⟨wb, 0, none⟩), .int .i64 (n : Int)] w (WrPost (l ++ beB n 4) wb base w) := by
  have HC := Lib.hid (wInt_any wb base l (n : Int) w h hn)
  rw [show m32 (n : Int) = n by unfold m32; omega] at HC
  clear h
  go_enter Tryz.func137, Tryz.ntmps137
  go_wp2_with fail
  refine HC.out.mono ?_
  rintro e w1 ⟨rfl, hw, hk⟩
  go_wp2_with fail
  refine bodyPost_ret (results_none rfl _ _ _) rfl ?_
  exact ⟨rfl, hw, hk⟩
/-- bytes that a Writer's writes leave as they are -/
def SlK (wb base : Nat) (w : World) (A : Option Addr) (m : Nat) (l : Bs) : Prop := ∀ W, Kw wb base w W → Sl W W.heap.size enc8 1 A m l
set_option maxRecDepth 100000 in
theorem wBuffer_any (wb base : Nat) (l l' : Bs) (A' : Option Addr) (m c' : Nat) (w : World) (h : WrB w wb base l) (hs : SlK wb base w A' m l') (hA : A' = none → m = 0 ∧ c' = 0) (hn : l.length ≤ 70368744177664) (hm : m ≤ 1073741824) :
    Calls Tryz.prog 77 #[.pointer (some ⟨wb, 0, none⟩), .slice A' m c'] w (WrPost (l ++ (beB m 4 ++ l')) wb base w) := by
  have HC := Lib.hid (wCount_any wb base l m w h hn hm)
  have HS := Lib.hid hs
  clear h hs
  go_enter Tryz.func77, Tryz.ntmps77
  go_wp2_with fail
  refine HC.out.mono ?_
  rintro e w1 ⟨rfl, hw, hk⟩
  have HK := Lib.hid hk
  have hP := wPut_any wb base (l ++ beB m 4) l' A' m c' w1 hw (HS.out _ hk) hA (by rw [List.length_append, beB_len]; omega)
  rw [List.append_assoc] at hP
  have HP := Lib.hid hP
  clear hw hk hP
  go_wp2_with fail
  refine HP.out.mono ?_
  rintro e w2 ⟨rfl, hw, hk⟩
  have HK2 := Lib.hid (HK.out.trans hk); have HW2 := Lib.hid hw
  clear hw hk
  go_wp2_with fail
  refine bodyPost_ret (results_none rfl _ _ _) rfl ?_
  exact ⟨rfl, HW2.out, HK2.out⟩
set_option maxRecDepth 100000 in
theorem wText_any (wb base : Nat) (l : Bs) (s : ByteArray) (w : World) (h : WrB w wb base l) (hn : l.length ≤ 70368744177664) (hm : s.size ≤ 1073741824) :
    Calls Tryz.prog 76 #[.pointer (some ⟨wb, 0, none⟩), .string s] w (WrPost (l ++ (beB s.size 4 ++ s.data.toList)) wb base w) := by
  have hrun := Lib.run_convert_string_bytes w 9 22 5 s Tryz.underlying9 Tryz.underlying22 Tryz.underlying5
  have hb1 : Below w.heap.size w (Lib.bytesWorld w 5 s) := ⟨rfl, rfl, rfl, by rw [Lib.bytesWorld_size]; omega, fun k hk => Lib.bytesWorld_at_old w 5 s k hk⟩
  have hlt := Nat.lt_of_lt_of_le h.lt h.size
  have HW := Lib.hid (h.below hb1)
  have HK := Lib.hid (Kw.of_below (wb := wb) (base := base) hb1)
  have HS := Lib.hid (show SlK wb base (Lib.bytesWorld w 5 s) (some ⟨w.heap.size, 0, none⟩) s.size s.data.toList from fun W hW =>
    ⟨by simp, fun _ => ⟨w.heap.size, 0, rfl, Nat.lt_of_lt_of_le (by rw [Lib.bytesWorld_size]; omega) hW.size, fun j hj a u hu => by
      have h1 := hW.other w.heap.size _ (Lib.bytesWorld_at_new w 5 s) (fun cs e => by injection e with _ _ e; simp at e) (by omega)
      have h2 := Lib.bytesWorld_cell w 5 s j hj
      rw [cellH (Lib.bytesWorld_at_new w 5 s)] at h2
      match a, hu with
      | 0, hu =>
        rw [cellH h1]
        simp only [Nat.mul_one, Nat.add_zero, Nat.zero_add]
        rw [h2, ← hu]
        simp only [enc8, List.getElem?_cons_zero]
        rw [getElem!_pos _ j (by simpa using hj)]
        simp [List.getD, hj]⟩⟩)
  generalize Lib.bytesWorld w 5 s = W1 at *
  clear h hb1
  go_enter Tryz.func76, Tryz.ntmps76
  go_wp2_with fail
  refine (wBuffer_any wb base l _ _ _ _ W1 HW.out HS.out (fun h => by cases h) hn hm).mono ?_
  rintro e w2 ⟨rfl, hw, hk⟩
  have HK2 := Lib.hid (HK.out.trans hk); have HW2 := Lib.hid hw
  clear hw hk
  go_wp2_with fail
  refine bodyPost_ret (results_none rfl _ _ _) rfl ?_
  exact ⟨rfl, HW2.out, HK2.out⟩
theorem eqBytesSome (a : Addr) (n c : Nat) (w : World) : (binOp .eql 22 (.slice (some a) n c) (.slice none 0 0)).run Tryz.prog w = .ok (.bool false) w := by kernel_rfl
/-- bytes in a row that the call made -/
def Row8 (w : World) (base : Nat) (A : Option Addr) (n c : Nat) (l : Bs) : Prop := w.ownsRow base 5 1 (.slice A n c) n (l.flatMap enc8)
theorem Row8.nil_cap {w : World} {base n c : Nat} {l : Bs} (h : Row8 w base none n c l) : n = 0 ∧ c = 0 := by
  rcases h.2 with ⟨e, e2⟩ | ⟨g, cap, cur, e, _⟩
  · injection e with e e5 e6
    exact ⟨e2, e6⟩
  · injection e with e; cases e
theorem Row8.sl {w : World} {base n c : Nat} {A : Option Addr} {l : Bs} (h : Row8 w base A n c l) (hl : l.length = n) : Sl w w.heap.size enc8 1 A n l := Sl.of_own enc8_len h hl
def Clone8 (n : Nat) (l : Bs) (w : World) (e : Ending) (w' : World) : Prop := (∃ A c, e = .returned (.slice A n c) ∧ Row8 w' w.heap.size A n c l) ∧ Below w.heap.size w w'
theorem eqBytesNil (w : World) : (binOp .eql 22 (.slice none 0 0) (.slice none 0 0)).run Tryz.prog w = .ok (.bool true) w := by kernel_rfl
set_option maxRecDepth 100000 in
theorem clone8_nil (w : World) : Calls Tryz.prog 84 #[.slice none 0 0] w fun e w' => e = .returned (.slice none 0 0) ∧ w' = w := by
  have hq := eqBytesNil
  go_enter Tryz.func84, Tryz.ntmps84
  go_wp2_with fail
  go_ret
  exact ⟨rfl, rfl⟩
set_option maxRecDepth 100000 in
theorem clone8_any (A : Option Addr) (n c : Nat) (l : Bs) (w : World) (hz : Sl w w.heap.size enc8 1 A n l) (hA : A = none → n = 0 ∧ c = 0) (hn : n ≤ 140737488355328) :
    Calls Tryz.prog 84 #[.slice A n c] w (Clone8 n l w) := by
  cases A with
  | none =>
    obtain ⟨rfl, rfl⟩ := hA rfl
    have hl : l = [] := List.length_eq_zero_iff.1 hz.len
    subst hl
    refine (clone8_nil w).mono ?_
    rintro e w' ⟨rfl, rfl⟩
    exact ⟨⟨none, 0, rfl, World.ownsRow_nil _ _ _ _⟩, Below.refl _ _⟩
  | some a =>
    have hb0 : Below w.heap.size w (w.alloc (.cells #[] 5)) := (Below.refl _ w).alloc (Nat.le_refl _) _
    have HS := Lib.hid (hz.belowMore hb0 hb0.size)
    have HB := Lib.hid hb0
    have hq := eqBytesSome a n c
    have HOW := Lib.hid (own_empty (T := 5) (k := 1) w)
    clear hz hA hb0
    go_enter Tryz.func84, Tryz.ntmps84
    go_wp2_with (at_builtin; refine wpList_app8 rfl _ _ rfl w.heap.size (some ⟨w.heap.size, 0, none⟩) 0 0 [] ?hx HOW.out (some a) n c l ?hy HS.out (fun e => by cases e) (by omega) HB.out.size ?hk)
    (try case hx => rfl)
    (try case hy => rfl)
    case hk =>
      intro A2 c2 w2 hv2 hg2
      have hb2 := own_belowG HOW.out hg2 HB.out.size
      have HV2 := Lib.hid hv2; have HB2 := Lib.hid (HB.out.trans hb2)
      clear hv2 hg2 hb2
      go_wp2_with fail
      go_ret
      exact ⟨⟨A2, c2, by simp, by unfold Row8; simpa using HV2.out⟩, HB2.out⟩
set_option maxRecDepth 100000 in
theorem wBytes_any (wb base : Nat) (l : Bs) (w : World) (h : WrB w wb base l) (hn : l.length ≤ 70368744177664) :
    Calls Tryz.prog 40 #[.pointer (some ⟨wb, 0, none⟩)] w (Clone8 l.length l w) := by
  obtain ⟨A, c, hcell, hrow⟩ := h.row
  have k0 : w.cell? ⟨wb, 0, none⟩ = some (.slice A l.length c) := by rw [cellH hcell]; rfl
  have HC := Lib.hid (clone8_any A l.length c l w (Row8.sl hrow rfl) (fun e => Row8.nil_cap (e ▸ hrow)) (by omega))
  clear h hcell hrow
  go_enter Tryz.func40, Tryz.ntmps40
  go_wp2_with fail
  refine HC.out.mono ?_
  rintro e w1 ⟨⟨A1, c1, rfl, hr⟩, hb⟩
  have HR := Lib.hid hr; have HB := Lib.hid hb
  clear hr hb
  go_wp2_with fail
  go_ret
  exact ⟨⟨A1, c1, rfl, HR.out⟩, HB.out⟩
end Go.Proofs.YthpjneobmmpbnaaGreatDoor
namespace Go.Proofs.YthpjneobmmpbnaaGreatDoor
open Go.RowKit Go.MapKept Go.Maps
def txtB (s : ByteArray) : Bs := beB s.size 4 ++ s.data.toList
def idB (x : IdV) : Bs := txtB x.1 ++ txtB x.2
def aclB (x : AclV) : Bs := beB (m32 x.1) 4 ++ idB x.2
theorem txtB_len (s : ByteArray) : (txtB s).length = 4 + s.size := by
  rw [txtB, List.length_append, beB_len]; simp
theorem idB_len (x : IdV) : (idB x).length = 8 + x.1.size + x.2.size := by rw [idB, List.length_append, txtB_len, txtB_len]; omega
theorem aclB_len (x : AclV) : (aclB x).length = 12 + x.2.1.size + x.2.2.size := by rw [aclB, List.length_append, beB_len, idB_len]; omega
theorem Kw.heap {wb base : Nat} {w w' : World} {g : Nat} {cs : Array Value} {T : TypeId} {f : Nat × Nat} (h : Kw wb base w w') (hg : w.heap[g]? = some (.cells cs T f)) (hT : T ≠ 5) (hn : g ≠ wb) : w'.heap[g]? = some (.cells cs T f) :=
  h.other g _ hg (fun c e => by injection e with _ e _; exact hT e) hn
theorem Sl.kw {α : Type} [Inhabited α] {w w' : World} {wb base : Nat} {enc : α → List Value} {k n : Nat} {A : Option Addr} {zs : List α} (h : Sl w base enc k A n zs) (hk : Kw wb base w w') (hn : 0 < n → ∀ a, A = some a → a.block ≠ wb) : Sl w' base enc k A n zs :=
  ⟨h.1, fun h0 => by
    obtain ⟨b, off, e, hb, hc⟩ := h.2 h0
    exact ⟨b, off, e, hb, fun j hj i u hu => hk.cell hb (show b ≠ wb from hn h0 _ e) (hc j hj i u hu)⟩⟩
set_option maxRecDepth 100000 in
theorem putId_any (wb base : Nat) (l : Bs) (x : IdV) (w : World) (h : WrB w wb base l) (hn : l.length ≤ 35184372088832) (h1 : x.1.size ≤ 1048576) (h2 : x.2.size ≤ 1048576) :
    Calls Tryz.prog 140 #[.pointer (some ⟨wb, 0, none⟩), .agg #[.string x.1, .string x.2]] w (WrPost (l ++ idB x) wb base w) := by
  obtain ⟨s, t⟩ := x
  dsimp only at h1 h2 ⊢
  have hb1 : Below w.heap.size w (w.alloc (.cells #[.string s, .string t] 108)) := (Below.refl _ w).alloc (Nat.le_refl _) _
  have hlt : w.heap.size ≠ wb := by have := h.lt; have := h.size; omega
  have HW := Lib.hid (h.below hb1)
  have HK := Lib.hid (Kw.of_below (wb := wb) (base := base) hb1)
  have hg := heap_alloc_new w (.cells #[.string s, .string t] 108)
  have HG := Lib.hid hg
  clear h hb1 hg
  go_enter Tryz.func140, Tryz.ntmps140
  go_wp2_with fail
  generalize w.alloc (.cells #[.string s, .string t] 108) = W at *
  refine (wText_any wb base l s W HW.out (by omega) (by omega)).mono ?_
  rintro e w1 ⟨rfl, hw, hk⟩
  have hg1 := hk.heap HG.out (by decide) hlt
  have x1 : w1.cell? ⟨w.heap.size, 1, none⟩ = some (.string t) := by rw [cellH hg1]; rfl
  have HW1 := Lib.hid hw; have HK1 := Lib.hid (HK.out.trans hk)
  have HL := Lib.hid (show (l ++ txtB s).length ≤ 70368744177664 by rw [List.length_append, txtB_len]; omega)
  clear hw hk hg1 HG
  go_wp2_with fail
  refine (wText_any wb base (l ++ txtB s) t w1 HW1.out HL.out (by omega)).mono ?_
  rintro e w2 ⟨rfl, hw, hk⟩
  have HW2 := Lib.hid (show WrB w2 wb base (l ++ idB (s, t)) by rw [idB, ← List.append_assoc]; exact hw)
  have HK2 := Lib.hid (HK1.out.trans hk)
  clear hw hk
  go_wp2_with fail
  refine bodyPost_ret (results_none rfl _ _ _) rfl ?_
  exact ⟨rfl, HW2.out, HK2.out⟩
set_option maxRecDepth 100000 in
theorem putAcl_any (wb base : Nat) (l : Bs) (x : AclV) (w : World) (h : WrB w wb base l) (hn : l.length ≤ 17592186044416) (h1 : x.2.1.size ≤ 1048576) (h2 : x.2.2.size ≤ 1048576) :
    Calls Tryz.prog 139 #[.pointer (some ⟨wb, 0, none⟩), .agg #[.int .i32 x.1, .string x.2.1, .string x.2.2]] w (WrPost (l ++ aclB x) wb base w) := by
  obtain ⟨p, s, t⟩ := x
  dsimp only at h1 h2 ⊢
  have hb1 : Below w.heap.size w (w.alloc (.cells #[.int .i32 p, .string s, .string t] 110)) := (Below.refl _ w).alloc (Nat.le_refl _) _
  have hlt : w.heap.size ≠ wb := by have := h.lt; have := h.size; omega
  have HW := Lib.hid (h.below hb1)
  have HK := Lib.hid (Kw.of_below (wb := wb) (base := base) hb1)
  have hg := heap_alloc_new w (.cells #[.int .i32 p, .string s, .string t] 110)
  have HG := Lib.hid hg
  clear h hb1 hg
  go_enter Tryz.func139, Tryz.ntmps139
  go_wp2_with fail
  generalize w.alloc (.cells #[.int .i32 p, .string s, .string t] 110) = W at *
  refine (wInt_any wb base l p W HW.out (by omega)).mono ?_
  rintro e w1 ⟨rfl, hw, hk⟩
  have hg1 := hk.heap HG.out (by decide) hlt
  have x1 : w1.cell? ⟨w.heap.size, 1, none⟩ = some (.string s) := by rw [cellH hg1]; rfl
  have x2 : w1.cell? ⟨w.heap.size, 2, none⟩ = some (.string t) := by rw [cellH hg1]; rfl
  have HW1 := Lib.hid hw; have HK1 := Lib.hid (HK.out.trans hk)
  have HL := Lib.hid (show (l ++ beB (m32 p) 4).length ≤ 35184372088832 by rw [List.length_append, beB_len]; omega)
  clear hw hk hg1 HG
  go_wp2_with fail
  refine (putId_any wb base (l ++ beB (m32 p) 4) (s, t) w1 HW1.out HL.out h1 h2).mono ?_
  rintro e w2 ⟨rfl, hw, hk⟩
  have HW2 := Lib.hid (show WrB w2 wb base (l ++ aclB (p, s, t)) by rw [aclB, ← List.append_assoc]; exact hw)
  have HK2 := Lib.hid (HK1.out.trans hk)
  clear hw hk
  go_wp2_with fail
  refine bodyPost_ret (results_none rfl _ _ _) rfl ?_
  exact ⟨rfl, HW2.out, HK2.out⟩
theorem flat_small {α : Type} [Inhabited α] (f : α → Bs) (zs : List α) (m : Nat) (h : ∀ j, j < zs.length → (f zs[j]!).length ≤ m) : ∀ k, k ≤ zs.length → ((zs.take k).flatMap f).length ≤ k * m
  | 0, _ => by simp
  | k + 1, hk => by
    have h1 := flat_small f zs m h k (by omega)
    have h2 := h k (by omega)
    rw [List.take_succ_eq_append_getElem (by omega), List.flatMap_append, List.length_append, Nat.succ_mul]
    rw [getElem!_pos zs k (by omega)] at h2
    simp only [List.flatMap_cons, List.flatMap_nil, List.append_nil]
    omega
theorem flat_step {α : Type} [Inhabited α] (f : α → Bs) (zs : List α) {k : Nat} (h : k < zs.length) : (zs.take (k + 1)).flatMap f = (zs.take k).flatMap f ++ f zs[k]! := by
  rw [List.take_succ_eq_append_getElem h, List.flatMap_append, getElem!_pos zs k h]
  simp
/-- a list, some of it written -/
def LPI (wb base n : Nat) (l : Bs) (zs : List IdV) (w : World) (i : Value) (wr : World) : Prop := ∃ k : Nat, i = .int .i64 ↑k ∧ k ≤ n ∧ WrB wr wb base (l ++ beB n 4 ++ (zs.take k).flatMap idB) ∧ Kw wb base w wr
set_option maxRecDepth 100000 in
theorem listI_any (wb base : Nat) (l : Bs) (A : Option Addr) (n c : Nat) (zs : List IdV) (w : World) (h : WrB w wb base l) (hz : Sl w base encId 2 A n zs) (hA : 0 < n → ∀ a, A = some a → a.block ≠ wb) (hl : l.length ≤ 8796093022208) (hn : n ≤ 1048576) (hs : ∀ j, j < n → (zs[j]!.1.size ≤ 1048576 ∧ zs[j]!.2.size ≤ 1048576)) :
    Calls Tryz.prog 141 #[.pointer (some ⟨wb, 0, none⟩), .slice A n c, .func (.func 140) #[] #[]] w (WrPost (l ++ (beB n 4 ++ zs.flatMap idB)) wb base w) := by
  have HZ := Lib.hid hz; have HA := Lib.hid hA; have HS := Lib.hid hs
  have HL := Lib.hid hz.len
  have HC := Lib.hid (wCount_any wb base l n w h (by omega) (by omega))
  have HF := Lib.hid (flat_small idB zs 2097164 (fun j hj => by have h1 := hs j (by rw [hz.len] at hj; exact hj); rw [idB_len]; omega))
  have hq : ∀ w : World, (binOp .eql 159 (.func (.func 140) #[] #[]) .nilFunc).run Tryz.prog w = .ok (.bool false) w := fun w => by kernel_rfl
  clear h hz hA hs
  go_enter Tryz.func141, Tryz.ntmps141
  go_wp2_with fail
  refine HC.out.mono ?_
  rintro e w1 ⟨rfl, hw, hk⟩
  have HW1 := Lib.hid hw; have HK1 := Lib.hid hk
  clear hw hk
  go_wp2_with fail
  go_loopw [16] (fun i wr => LPI wb base n l zs w i wr) (fun i _ => n - (RowKit.intOf i).toNat)
  case atStart => exact ⟨0, rfl, Nat.zero_le _, by rw [List.take_zero, List.flatMap_nil, List.append_nil]; exact HW1.out, HK1.out⟩
  case round =>
    obtain ⟨k, rfl, hk, hw, hkw⟩ := hrel
    have HW := Lib.hid hw; have HK := Lib.hid hkw
    by_cases hkn : k < n
    · have hkn2 : (k : Int) < (n : Int) := by omega
      obtain ⟨b, off, hA, hb, hc⟩ := (HZ.out.kw hkw HA.out).cells hkn
      have HSJ := Lib.hid (HS.out k hkn)
      have HST := Lib.hid (flat_step idB zs (k := k) (by rw [HL.out]; exact hkn))
      have hfl := HF.out k (by rw [HL.out]; exact hk)
      have HLN := Lib.hid (show (l ++ beB n 4 ++ (zs.take k).flatMap idB).length ≤ 17592186044416 by
        rw [List.length_append, List.length_append, beB_len]
        have : k * 2097164 ≤ 1048576 * 2097164 := Nat.mul_le_mul_right _ (by omega)
        omega)
      subst hA
      generalize zs[k]! = z at *
      obtain ⟨s, t⟩ := z
      have c0 : wr.cell? ⟨b, off + k * 2, none⟩ = some (.string s) := hc 0 _ rfl
      have c1 : wr.cell? ⟨b, off + k * 2 + 1, none⟩ = some (.string t) := hc 1 _ rfl
      have hb1 : Below wr.heap.size wr (wr.alloc (.cells #[.string s, .string t] 108)) := (Below.refl _ wr).alloc (Nat.le_refl _) _
      have HW2 := Lib.hid (HW.out.below hb1)
      have HK2 := Lib.hid (HK.out.trans (Kw.of_below hb1))
      clear hw hkw hb1 hc hb hfl
      go_wp2_with fail
      generalize wr.alloc (.cells #[.string s, .string t] 108) = W at *
      refine (putId_any wb base _ (s, t) W HW2.out (Nat.le_trans HLN.out (by decide)) HSJ.out.1 HSJ.out.2).mono ?_
      rintro e w3 ⟨rfl, hw, hkw⟩
      have HW3 := Lib.hid (show WrB w3 wb base (l ++ beB n 4 ++ (zs.take (k + 1)).flatMap idB) by rw [HST.out, ← List.append_assoc]; exact hw)
      have HK3 := Lib.hid (HK2.out.trans hkw)
      clear hw hkw
      go_wp2_with fail
      go_roundw
      case rel => exact ⟨k + 1, by go_num, by omega, HW3.out, HK3.out⟩
      case measure => simp [RowKit.intOf]; omega
    · have hkn2 : ¬ (k : Int) < (n : Int) := by omega
      have hkk : k = n := by omega
      subst hkk
      have HW3 := Lib.hid (show WrB wr wb base (l ++ (beB k 4 ++ zs.flatMap idB)) by
        have h9 := HW.out
        rw [List.take_of_length_le (by rw [HL.out]; exact Nat.le_refl _), List.append_assoc] at h9
        exact h9)
      clear hw hkw
      go_wp2_with fail
      refine bodyPost_ret (results_none rfl _ _ _) rfl ?_
      exact ⟨rfl, HW3.out, HK.out⟩
set_option maxRecDepth 100000 in
theorem aclPutIds_any (wb base : Nat) (l : Bs) (A : Option Addr) (n c : Nat) (zs : List IdV) (w : World) (h : WrB w wb base l) (hz : Sl w base encId 2 A n zs) (hA : 0 < n → ∀ a, A = some a → a.block ≠ wb) (hl : l.length ≤ 8796093022208) (hn : n ≤ 1048576) (hs : ∀ j, j < n → (zs[j]!.1.size ≤ 1048576 ∧ zs[j]!.2.size ≤ 1048576)) :
    Calls Tryz.prog 81 #[.pointer (some ⟨wb, 0, none⟩), .slice A n c] w (WrPost (l ++ (beB n 4 ++ zs.flatMap idB)) wb base w) := by
  have HC := Lib.hid (listI_any wb base l A n c zs w h hz hA hl hn hs)
  clear h hz hA hs
  go_enter Tryz.func81, Tryz.ntmps81
  go_wp2_with fail
  refine HC.out.mono ?_
  rintro e w1 ⟨rfl, hw, hk⟩
  have HW1 := Lib.hid hw; have HK1 := Lib.hid hk
  clear hw hk
  go_wp2_with fail
  refine bodyPost_ret (results_none rfl _ _ _) rfl ?_
  exact ⟨rfl, HW1.out, HK1.out⟩
/-- a list, some of it written -/
def LPA (wb base n : Nat) (l : Bs) (zs : List AclV) (w : World) (i : Value) (wr : World) : Prop := ∃ k : Nat, i = .int .i64 ↑k ∧ k ≤ n ∧ WrB wr wb base (l ++ beB n 4 ++ (zs.take k).flatMap aclB) ∧ Kw wb base w wr
set_option maxRecDepth 100000 in
theorem listA_any (wb base : Nat) (l : Bs) (A : Option Addr) (n c : Nat) (zs : List AclV) (w : World) (h : WrB w wb base l) (hz : Sl w base encAcl 3 A n zs) (hA : 0 < n → ∀ a, A = some a → a.block ≠ wb) (hl : l.length ≤ 8796093022208) (hn : n ≤ 1048576) (hs : ∀ j, j < n → (zs[j]!.2.1.size ≤ 1048576 ∧ zs[j]!.2.2.size ≤ 1048576)) :
    Calls Tryz.prog 138 #[.pointer (some ⟨wb, 0, none⟩), .slice A n c, .func (.func 139) #[] #[]] w (WrPost (l ++ (beB n 4 ++ zs.flatMap aclB)) wb base w) := by
  have HZ := Lib.hid hz; have HA := Lib.hid hA; have HS := Lib.hid hs
  have HL := Lib.hid hz.len
  have HC := Lib.hid (wCount_any wb base l n w h (by omega) (by omega))
  have HF := Lib.hid (flat_small aclB zs 2097164 (fun j hj => by have h1 := hs j (by rw [hz.len] at hj; exact hj); rw [aclB_len]; omega))
  have hq : ∀ w : World, (binOp .eql 160 (.func (.func 139) #[] #[]) .nilFunc).run Tryz.prog w = .ok (.bool false) w := fun w => by kernel_rfl
  clear h hz hA hs
  go_enter Tryz.func138, Tryz.ntmps138
  go_wp2_with fail
  refine HC.out.mono ?_
  rintro e w1 ⟨rfl, hw, hk⟩
  have HW1 := Lib.hid hw; have HK1 := Lib.hid hk
  clear hw hk
  go_wp2_with fail
  go_loopw [16] (fun i wr => LPA wb base n l zs w i wr) (fun i _ => n - (RowKit.intOf i).toNat)
  case atStart => exact ⟨0, rfl, Nat.zero_le _, by rw [List.take_zero, List.flatMap_nil, List.append_nil]; exact HW1.out, HK1.out⟩
  case round =>
    obtain ⟨k, rfl, hk, hw, hkw⟩ := hrel
    have HW := Lib.hid hw; have HK := Lib.hid hkw
    by_cases hkn : k < n
    · have hkn2 : (k : Int) < (n : Int) := by omega
      obtain ⟨b, off, hA, hb, hc⟩ := (HZ.out.kw hkw HA.out).cells hkn
      have HSJ := Lib.hid (HS.out k hkn)
      have HST := Lib.hid (flat_step aclB zs (k := k) (by rw [HL.out]; exact hkn))
      have hfl := HF.out k (by rw [HL.out]; exact hk)
      have HLN := Lib.hid (show (l ++ beB n 4 ++ (zs.take k).flatMap aclB).length ≤ 17592186044416 by
        rw [List.length_append, List.length_append, beB_len]
        have : k * 2097164 ≤ 1048576 * 2097164 := Nat.mul_le_mul_right _ (by omega)
        omega)
      subst hA
      generalize zs[k]! = z at *
      obtain ⟨p, s, t⟩ := z
      have c0 : wr.cell? ⟨b, off + k * 3, none⟩ = some (.int .i32 p) := hc 0 _ rfl
      have c1 : wr.cell? ⟨b, off + k * 3 + 1, none⟩ = some (.string s) := hc 1 _ rfl
      have c2 : wr.cell? ⟨b, off + k * 3 + 2, none⟩ = some (.string t) := hc 2 _ rfl
      have hb1 : Below wr.heap.size wr (wr.alloc (.cells #[.int .i32 p, .string s, .string t] 110)) := (Below.refl _ wr).alloc (Nat.le_refl _) _
      have HW2 := Lib.hid (HW.out.below hb1)
      have HK2 := Lib.hid (HK.out.trans (Kw.of_below hb1))
      clear hw hkw hb1 hc hb hfl
      go_wp2_with fail
      generalize wr.alloc (.cells #[.int .i32 p, .string s, .string t] 110) = W at *
      refine (putAcl_any wb base _ (p, s, t) W HW2.out HLN.out HSJ.out.1 HSJ.out.2).mono ?_
      rintro e w3 ⟨rfl, hw, hkw⟩
      have HW3 := Lib.hid (show WrB w3 wb base (l ++ beB n 4 ++ (zs.take (k + 1)).flatMap aclB) by rw [HST.out, ← List.append_assoc]; exact hw)
      have HK3 := Lib.hid (HK2.out.trans hkw)
      clear hw hkw
      go_wp2_with fail
      go_roundw
      case rel => exact ⟨k + 1, by go_num, by omega, HW3.out, HK3.out⟩
      case measure => simp [RowKit.intOf]; omega
    · have hkn2 : ¬ (k : Int) < (n : Int) := by omega
      have hkk : k = n := by omega
      subst hkk
      have HW3 := Lib.hid (show WrB wr wb base (l ++ (beB k 4 ++ zs.flatMap aclB)) by
        have h9 := HW.out
        rw [List.take_of_length_le (by rw [HL.out]; exact Nat.le_refl _), List.append_assoc] at h9
        exact h9)
      clear hw hkw
      go_wp2_with fail
      refine bodyPost_ret (results_none rfl _ _ _) rfl ?_
      exact ⟨rfl, HW3.out, HK.out⟩
set_option maxRecDepth 100000 in
theorem aclPut_any (wb base : Nat) (l : Bs) (A : Option Addr) (n c : Nat) (zs : List AclV) (w : World) (h : WrB w wb base l) (hz : Sl w base encAcl 3 A n zs) (hA : 0 < n → ∀ a, A = some a → a.block ≠ wb) (hl : l.length ≤ 8796093022208) (hn : n ≤ 1048576) (hs : ∀ j, j < n → (zs[j]!.2.1.size ≤ 1048576 ∧ zs[j]!.2.2.size ≤ 1048576)) :
    Calls Tryz.prog 78 #[.pointer (some ⟨wb, 0, none⟩), .slice A n c] w (WrPost (l ++ (beB n 4 ++ zs.flatMap aclB)) wb base w) := by
  have HC := Lib.hid (listA_any wb base l A n c zs w h hz hA hl hn hs)
  clear h hz hA hs
  go_enter Tryz.func78, Tryz.ntmps78
  go_wp2_with fail
  refine HC.out.mono ?_
  rintro e w1 ⟨rfl, hw, hk⟩
  have HW1 := Lib.hid hw; have HK1 := Lib.hid hk
  clear hw hk
  go_wp2_with fail
  refine bodyPost_ret (results_none rfl _ _ _) rfl ?_
  exact ⟨rfl, HW1.out, HK1.out⟩
end Go.Proofs.YthpjneobmmpbnaaGreatDoor
namespace Go.Proofs.YthpjneobmmpbnaaGreatDoor
open Go.RowKit Go.MapKept Go.Maps
section
variable {w : World} {rb n c p : Nat} {A : Option Addr} {l : Bs}
theorem Rd.c0 (h : Rd w rb A n c l p) : w.cell? ⟨rb, 0, none⟩ = some (.slice A n c) := by rw [cellH h.cell]; rfl
theorem Rd.c1 (h : Rd w rb A n c l p) : w.cell? ⟨rb, 1, none⟩ = some (.int .i64 (p : Int)) := by rw [cellH h.cell]; rfl
theorem Rd.c2 (h : Rd w rb A n c l p) : w.cell? ⟨rb, 2, none⟩ = some (.bool false) := by rw [cellH h.cell]; rfl
theorem Rd.f1 (h : Rd w rb A n c l p) (o : Nat) : w.frozen? ⟨rb, o, none⟩ = false := by simp [World.frozen?, h.cell]
theorem Rd.len (h : Rd w rb A n c l p) : l.length = n := h.sl.len
theorem Rd.drewN (h : Rd w rb A n c l p) (q : Nat) : Rd (w.drewN q) rb A n c l p := ⟨h.cell, h.sl, h.at_, h.small, h.cap, h.nil⟩
theorem Rd.step (h : Rd w rb A n c l p) (k : Nat) {q : Nat} (hq : q ≤ n) : Rd ((w.drewN k).setCell ⟨rb, 1, none⟩ (.int .i64 (q : Int))) rb A n c l q ∧ Fr [rb] w ((w.drewN k).setCell ⟨rb, 1, none⟩ (.int .i64 (q : Int))) := by
  have hf : Fr [rb] w ((w.drewN k).setCell ⟨rb, 1, none⟩ (.int .i64 (q : Int))) := (Fr.of_below (drewN_self w k)).setJ (by simp) 1 _
  exact ⟨h.go hf (heap_setJ (w := w.drewN k) h.cell _) hq, hf⟩
end
theorem Fr.drewJ {own : List Nat} (w : World) (k : Nat) : Fr own w (w.drewN k) := Fr.of_below (drewN_self w k)
theorem Fr.transJ {rb : Nat} {w w1 w2 : World} (h : Fr [rb] w w1) (k : Fr [rb] w1 w2) : Fr [rb] w w2 := h.trans k (fun _ hg => .inl hg)
set_option maxRecDepth 100000 in
theorem done_any {w : World} {rb n c p : Nat} {A : Option Addr} {l : Bs} (h : Rd w rb A n c l p) :
    Calls Tryz.prog 112 #[.pointer (some ⟨rb, 0, none⟩)] w fun e w' => e = .returned (.bool false) ∧ w = w' := by
  have k2 := h.c2
  clear h
  go_enter Tryz.func112, Tryz.ntmps112
  go_wp2_with fail
  go_ret
  exact ⟨rfl, rfl⟩
set_option maxRecDepth 100000 in
theorem fail_any {w : World} {rb n c p : Nat} {A : Option Addr} {l : Bs} (k : Int) (h : Rd w rb A n c l p) (hk : k ≠ 0) :
    Calls Tryz.prog 65 #[.pointer (some ⟨rb, 0, none⟩), .int .i64 k] w fun e w' => e = .panicked [failV rb k] ∧ w = w' := by
  have HD := Lib.hid (done_any h)
  have hk2 : (k != 0) = true := by simpa using hk
  have hp : ∀ (v : Value) (w : World), (Instr.panic (.iface 140 v)).run Tryz.prog w = .halt (.panic (.iface 140 v)) w := fun v w => rfl
  clear h
  go_enter Tryz.func65, Tryz.ntmps65
  go_wp2_with fail
  refine HD.out.mono ?_
  rintro e w1 ⟨rfl, rfl⟩
  go_wp2_with fail
  exact ⟨rfl, rfl, rfl⟩
set_option maxRecDepth 100000 in
theorem left_any {w : World} {rb n c p : Nat} {A : Option Addr} {l : Bs} (h : Rd w rb A n c l p) :
    Calls Tryz.prog 171 #[.pointer (some ⟨rb, 0, none⟩)] w fun e w' => e = .returned (.int .i64 ((n : Int) - (p : Int))) ∧ ∃ q, w' = w.drewN q := by
  have HD := Lib.hid (done_any h)
  have k0 := h.c0; have k1 := h.c1
  have hs := h.small; have ha := h.at_
  have hw : IntKind.i64.wrap ((n : Int) - (p : Int)) = (n : Int) - (p : Int) := IntWalk.i64_in _ (by omega)
  clear h
  go_enter Tryz.func171, Tryz.ntmps171
  go_wp2_with fail
  refine HD.out.mono ?_
  rintro e w1 ⟨rfl, rfl⟩
  go_wp2_with fail
  go_quiet (fail)
  go_wp2_with fail
  go_ret
  exact ⟨rfl, nq, rfl⟩
theorem slice_mid (A : Option Addr) (n c p m : Nat) (hm : p + m ≤ n) (hc : n ≤ c) (w : World) : (Instr.sliceAt 22 (.slice A n c) (some (.int .i64 ↑p)) (some (.int .i64 (↑p + ↑m))) none).run Tryz.prog w = .ok (.slice (if c = p then A else A.map (·.add p)) m (c - p)) w := by
  have h0 : (0 : Int) ≤ ↑p := by omega
  have h1 : ((p : Nat) : Int) ≤ ↑p + ↑m := by omega
  have h2 : ((p : Nat) : Int) + ↑m ≤ ↑c := by omega
  have h3 : ((p : Nat) : Int) + ↑m ≤ ↑n := by omega
  go_simp
  omega
/-- bytes that lie below the Reader -/
def BufAt (rb : Nat) (b : Bs) (u : Value) (w : World) : Prop := ∃ A c, u = .slice A b.length c ∧ Sl w rb enc8 1 A b.length b ∧ (A = none → b.length = 0 ∧ c = 0) ∧ b.length ≤ c
theorem BufAt.fr {w w' : World} {rb : Nat} {b : Bs} {u : Value} (h : BufAt rb b u w) (hf : Fr [rb] w w') (hb : rb < w.heap.size) : BufAt rb b u w' := by
  obtain ⟨A, c, e, hs, hn, hc⟩ := h
  exact ⟨A, c, e, hs.fr hf (Nat.le_of_lt hb) (fun g hg => by rw [List.mem_singleton.1 hg]; exact Nat.le_refl _), hn, hc⟩
theorem BufAt.mid {w : World} {rb n c p m : Nat} {A : Option Addr} {l : Bs} (h : Rd w rb A n c l p) (hm : p + m ≤ n) : BufAt rb ((l.drop p).take m) (.slice (if c = p then A else A.map (·.add p)) m (c - p)) w ∧ ((l.drop p).take m).length = m := by
  have hl := h.len
  have hlen : ((l.drop p).take m).length = m := by rw [List.length_take, List.length_drop]; omega
  refine ⟨⟨if c = p then A else A.map (·.add p), c - p, by rw [hlen], ?_, fun e => ?_, by rw [hlen]; have := h.cap; omega⟩, hlen⟩
  · rw [hlen]
    refine ⟨hlen, fun h0 => ?_⟩
    have hc := h.cap
    rw [if_neg (by omega)]
    obtain ⟨b, off, e, hb, hcl⟩ := h.sl.2 (by omega)
    refine ⟨b, off + p, by rw [e]; simp only [Option.map_some, Addr.add]; by_cases h0 : p = 0 <;> simp [h0], hb, fun j hj i u hu => ?_⟩
    have e1 : ((l.drop p).take m)[j]! = l[p + j]! := by
      rw [getElem!_pos _ j (by rw [hlen]; exact hj), getElem!_pos l (p + j) (by omega)]; simp
    have := hcl (p + j) (by omega) i u (by rw [← hu, e1])
    rw [← this]; congr 2; omega
  · have hn : A = none := by
      by_cases h1 : c = p
      · rw [if_pos h1] at e; exact e
      · rw [if_neg h1] at e; simpa using e
    obtain ⟨h1, h2⟩ := h.nil hn
    rw [hlen]; omega
set_option maxRecDepth 100000 in
theorem next_any {w : World} {rb n c p : Nat} {A : Option Addr} {l : Bs} (m : Nat) (h : Rd w rb A n c l p) (hm9 : m ≤ 1048576) :
    Calls Tryz.prog 114 #[.pointer (some ⟨rb, 0, none⟩), .int .i64 (m : Int)] w (RdOut rb A n c l w (takeP l m p) (fun b u w' => BufAt rb b u w')) := by
  have HL := Lib.hid (left_any h)
  have HR := Lib.hid h
  have k0 := h.c0; have k1 := h.c1; have f1 := h.f1 1
  have hs := h.small; have ha := h.at_; have hc := h.cap
  have hl := h.len
  by_cases hm : p + m ≤ n
  · have hm2 : ¬ ((n : Int) - (p : Int)) < (m : Int) := by omega
    have hw : IntKind.i64.wrap ((p : Int) + (m : Int)) = (p : Int) + (m : Int) := IntWalk.i64_in _ (by omega)
    have hsl := slice_mid A n c p m hm hc
    have hmid := BufAt.mid h hm
    have HT := Lib.hid (show takeP l m p = .ok ((l.drop p).take m, p + m) by unfold takeP; rw [if_neg (by omega)])
    have HQ := Lib.hid hm
    clear h hm
    generalize (if c = p then A else A.map (·.add p)) = A2 at hmid hsl
    generalize c - p = c2 at hmid hsl
    have HM := Lib.hid hmid
    clear hmid
    go_enter Tryz.func114, Tryz.ntmps114
    go_wp2_with fail
    refine HL.out.mono ?_
    rintro e w1 ⟨rfl, q1, rfl⟩
    go_wp2_with fail
    go_quiet (fail)
    go_wp2_with fail
    go_ret
    have hst := HR.out.step (q1 + nq) HQ.out
    have hb := HM.out.1.fr hst.2 HR.out.lt
    rw [HT.out]
    rw [← Int.natCast_add]
    exact ⟨⟨_, rfl, hb⟩, hst.1, hst.2⟩
  · have hm2 : ((n : Int) - (p : Int)) < (m : Int) := by omega
    have HT := Lib.hid (show takeP l m p = .error (p, 20) by unfold takeP; rw [if_pos (by omega)])
    clear h hm
    go_enter Tryz.func114, Tryz.ntmps114
    go_wp2_with fail
    refine HL.out.mono ?_
    rintro e w1 ⟨rfl, q1, rfl⟩
    go_wp2_with fail
    refine (fail_any 20 (HR.out.drewN q1) (by decide)).mono ?_
    rintro e w2 ⟨rfl, rfl⟩
    refine ⟨rfl, ?_⟩
    rw [HT.out]
    exact ⟨rfl, HR.out.drewN q1, Fr.drewJ _ _⟩
/-- the number of some bytes -/
theorem beN_snoc (a : Bs) (b : UInt8) : beN (a ++ [b]) = beN a * 256 + b.toNat := by simp [beN]
theorem beN_lt : ∀ (l : Bs), beN l < 256 ^ l.length := by
  have go : ∀ (n : Nat) (l : Bs), l.length = n → beN l < 256 ^ n := by
    intro n
    induction n with
    | zero => intro l h; rw [List.eq_nil_of_length_eq_zero h]; simp [beN]
    | succ n ih =>
      intro l h
      have hne : l ≠ [] := fun e => by rw [e] at h; simp at h
      have e := List.dropLast_concat_getLast hne
      rw [← e, beN_snoc, Nat.pow_succ]
      have h1 := ih l.dropLast (by rw [List.length_dropLast, h]; omega)
      have h2 := (l.getLast hne).toNat_lt
      omega
  exact fun l => go _ l rfl
theorem pow_le7 (k : Nat) (h : k ≤ 7) : 256 ^ k ≤ 72057594037927936 := by
  have := Nat.pow_le_pow_right (show 0 < 256 by decide) h
  exact this
theorem or_beN (x b : Nat) (hx : x < 72057594037927936) (hb : b < 256) : bits .or .u64 (((x * 256 : Nat)) : Int) (b : Int) = ((x * 256 + b : Nat) : Int) := by
  rw [bits_or_u64_nat _ _ (by omega) (by omega)]
  have h := Nat.shiftLeft_add_eq_or_of_lt (i := 8) (b := b) (by omega) x
  rw [Nat.shiftLeft_eq, show (2 : Nat) ^ 8 = 256 from rfl] at h
  rw [h]
def NbR (l : Bs) (w : World) (x i : Value) (wr : World) : Prop := ∃ k : Nat, x = .int .u64 ((beN (l.take k) : Nat) : Int) ∧ i = .int .i64 (k : Int) ∧ k ≤ l.length ∧ ∃ q, wr = w.drewN q
set_option maxRecDepth 100000 in
theorem beNum_any {B m c : Nat} {A : Option Addr} {l : Bs} (w : World) (h : Sl w B enc8 1 A m l) (hm : m ≤ 8) :
    Calls Tryz.prog 113 #[.slice A m c] w fun e w' => e = .returned (.int .u64 ((beN l : Nat) : Int)) ∧ ∃ q, w' = w.drewN q := by
  have HS := Lib.hid h
  have HL := Lib.hid h.len
  clear h
  go_enter Tryz.func113, Tryz.ntmps113
  go_wp2_with fail
  go_loopw [3, 8] (fun x i wr => NbR l w x i wr) (fun _ i _ => m - (RowKit.intOf i).toNat)
  case atStart => exact ⟨0, rfl, rfl, Nat.zero_le _, 0, rfl⟩
  case round =>
    obtain ⟨k, rfl, rfl, hk, q, rfl⟩ := hrel
    by_cases hkm : k < m
    · have hlt : (k : Int) < (m : Int) := by omega
      obtain ⟨b, off, rfl, _, x0⟩ := HS.out.at8 hkm
      have hk1 : k < l.length := by rw [HL.out]; exact hkm
      have hst : beN (l.take (k + 1)) = beN (l.take k) * 256 + l[k]!.toNat := by
        rw [List.take_succ_eq_append_getElem hk1, beN_snoc, getElem!_pos l k hk1]
      have hx : beN (l.take k) < 72057594037927936 := Nat.lt_of_lt_of_le (beN_lt _) (pow_le7 _ (by rw [List.length_take]; omega))
      have hby := l[k]!.toNat_lt
      have hor := or_beN (beN (l.take k)) l[k]!.toNat hx hby
      rw [← hst] at hor
      generalize l[k]!.toNat = y at *
      generalize hX : beN (l.take k) = X at *
      have HST := Lib.hid hst
      clear hst
      generalize hY : beN (l.take (k + 1)) = Y at *
      have HY := Lib.hid hY
      clear hY
      have HX := Lib.hid hX
      clear hX
      go_wp2_with fail
      go_roundw
      case rel => exact ⟨k + 1, by rw [HY.out]; exact congrArg _ hor, by go_num, by omega, q, rfl⟩
      case measure => simp [RowKit.intOf]; omega
    · have hlt : ¬ (k : Int) < (m : Int) := by omega
      have HX := Lib.hid (show l.take k = l from List.take_of_length_le (by rw [HL.out]; omega))
      go_wp2_with fail
      go_ret
      rw [HX.out]
      exact ⟨rfl, q, rfl⟩
theorem takeP_len {l : Bs} {n p : Nat} {b : Bs} {q : Nat} (h : takeP l n p = .ok (b, q)) : b.length = n := by
  unfold takeP at h
  by_cases h1 : l.length - p < n
  · rw [if_pos h1] at h; cases h
  · rw [if_neg h1] at h
    injection h with h
    injection h with h _
    rw [← h, List.length_take, List.length_drop]; omega
theorem takeP_at {l : Bs} {n p : Nat} {b : Bs} {q : Nat} (h : takeP l n p = .ok (b, q)) : q = p + n := by
  unfold takeP at h
  by_cases h1 : l.length - p < n
  · rw [if_pos h1] at h; cases h
  · rw [if_neg h1] at h
    injection h with h
    injection h with _ h
    exact h.symm
theorem next_at {w : World} {rb n c p : Nat} {A : Option Addr} {l : Bs} (mi : Int) (m : Nat) (hmi : mi = (m : Int)) (h : Rd w rb A n c l p) (hm9 : m ≤ 1048576) :
    Calls Tryz.prog 114 #[.pointer (some ⟨rb, 0, none⟩), .int .i64 mi] w (RdOut rb A n c l w (takeP l m p) (fun b u w' => BufAt rb b u w')) := by
  subst hmi; exact next_any m h hm9
set_option maxRecDepth 100000 in
theorem rInt_any {w : World} {rb n c p : Nat} {A : Option Addr} {l : Bs} (h : Rd w rb A n c l p) :
    Calls Tryz.prog 64 #[.pointer (some ⟨rb, 0, none⟩)] w (RdOut rb A n c l w (intP l p) (fun v u _ => u = .int .i32 v)) := by
  have HD := Lib.hid (done_any h)
  have hN := next_at 4 4 rfl h (by decide)
  clear h
  rcases hT : takeP l 4 p with ⟨q, k⟩ | ⟨b, q⟩
  · have HG := Lib.hid (show intP l p = .error (q, k) by unfold intP; rw [hT]; rfl)
    rw [hT] at hN
    have HN := Lib.hid hN
    clear hN hT
    go_enter Tryz.func64, Tryz.ntmps64
    go_wp2_with fail
    refine HD.out.mono ?_
    rintro e w1 ⟨rfl, rfl⟩
    go_wp2_with fail
    refine HN.out.mono ?_
    rintro e w2 ⟨rfl, hr, hf⟩
    refine ⟨rfl, ?_⟩
    rw [HG.out]
    exact ⟨rfl, hr, hf⟩
  · have HG := Lib.hid (show intP l p = .ok (i32N (beN b), q) by unfold intP; rw [hT]; rfl)
    have HB := Lib.hid (takeP_len hT)
    rw [hT] at hN
    have HN := Lib.hid hN
    clear hN hT
    go_enter Tryz.func64, Tryz.ntmps64
    go_wp2_with fail
    refine HD.out.mono ?_
    rintro e w1 ⟨rfl, rfl⟩
    go_wp2_with fail
    refine HN.out.mono ?_
    rintro e w2 ⟨⟨u, rfl, A2, c2, rfl, hs, hn, _⟩, hr, hf⟩
    have HR := Lib.hid hr; have HF := Lib.hid hf
    have hM := beNum_any (c := c2) w2 hs (by rw [HB.out]; decide)
    have HM := Lib.hid hM
    have hlt := beN_lt b
    rw [HB.out] at hlt
    have HC := Lib.hid (show wrap32 (((beN b : Nat) : Int) % 4294967296) = i32N (beN b) by unfold i32N wrap32; split <;> omega)
    clear hr hf hs hn hM hlt
    go_wp2_with fail
    refine HM.out.mono ?_
    rintro e w3 ⟨rfl, q3, rfl⟩
    go_wp2_with fail
    go_ret
    rw [HG.out]
    exact ⟨⟨_, rfl, congrArg (Value.int .i32) HC.out⟩, HR.out.drewN q3, HF.out.transJ (Fr.drewJ _ _)⟩
set_option maxRecDepth 100000 in
theorem rLong_any {w : World} {rb n c p : Nat} {A : Option Addr} {l : Bs} (h : Rd w rb A n c l p) :
    Calls Tryz.prog 63 #[.pointer (some ⟨rb, 0, none⟩)] w (RdOut rb A n c l w (longP l p) (fun v u _ => u = .int .i64 v)) := by
  have HD := Lib.hid (done_any h)
  have hN := next_at 8 8 rfl h (by decide)
  clear h
  rcases hT : takeP l 8 p with ⟨q, k⟩ | ⟨b, q⟩
  · have HG := Lib.hid (show longP l p = .error (q, k) by unfold longP; rw [hT]; rfl)
    rw [hT] at hN
    have HN := Lib.hid hN
    clear hN hT
    go_enter Tryz.func63, Tryz.ntmps63
    go_wp2_with fail
    refine HD.out.mono ?_
    rintro e w1 ⟨rfl, rfl⟩
    go_wp2_with fail
    refine HN.out.mono ?_
    rintro e w2 ⟨rfl, hr, hf⟩
    refine ⟨rfl, ?_⟩
    rw [HG.out]
    exact ⟨rfl, hr, hf⟩
  · have HG := Lib.hid (show longP l p = .ok (i64N (beN b), q) by unfold longP; rw [hT]; rfl)
    have HB := Lib.hid (takeP_len hT)
    rw [hT] at hN
    have HN := Lib.hid hN
    clear hN hT
    go_enter Tryz.func63, Tryz.ntmps63
    go_wp2_with fail
    refine HD.out.mono ?_
    rintro e w1 ⟨rfl, rfl⟩
    go_wp2_with fail
    refine HN.out.mono ?_
    rintro e w2 ⟨⟨u, rfl, A2, c2, rfl, hs, hn, _⟩, hr, hf⟩
    have HR := Lib.hid hr; have HF := Lib.hid hf
    have hM := beNum_any (c := c2) w2 hs (by rw [HB.out]; decide)
    have HM := Lib.hid hM
    have hlt := beN_lt b
    rw [HB.out] at hlt
    have HC := Lib.hid (show wrap64 ((beN b : Nat) : Int) = i64N (beN b) by unfold i64N wrap64; split <;> omega)
    clear hr hf hs hn hM hlt
    go_wp2_with fail
    refine HM.out.mono ?_
    rintro e w3 ⟨rfl, q3, rfl⟩
    go_wp2_with fail
    go_ret
    rw [HG.out]
    exact ⟨⟨_, rfl, congrArg (Value.int .i64) HC.out⟩, HR.out.drewN q3, HF.out.transJ (Fr.drewJ _ _)⟩
theorem i32N_range {x : Nat} (h : x < 4294967296) : -2147483648 ≤ i32N x ∧ i32N x < 2147483648 := by
  unfold i32N; split <;> omega
theorem intP_ok {l : Bs} {p q : Nat} {v : Int} (h : intP l p = .ok (v, q)) : q = p + 4 ∧ -2147483648 ≤ v ∧ v < 2147483648 := by
  unfold intP at h
  rcases hT : takeP l 4 p with e | ⟨b, q'⟩
  · rw [hT] at h; cases h
  · rw [hT] at h
    injection h with h
    injection h with h1 h2
    have hl := beN_lt b
    rw [takeP_len hT] at hl
    rw [← h1, ← h2]
    exact ⟨takeP_at hT, i32N_range hl⟩
set_option maxRecDepth 100000 in
theorem back_any {w : World} {rb n c p : Nat} {A : Option Addr} {l : Bs} (mi : Int) (m : Nat) (hmi : mi = (m : Int)) (k : Int) (h : Rd w rb A n c l p) (hm : m ≤ p) (hk : k ≠ 0) :
    Calls Tryz.prog 174 #[.pointer (some ⟨rb, 0, none⟩), .int .i64 mi, .int .i64 k] w fun e w' => e = .panicked [failV rb k] ∧ Rd w' rb A n c l (p - m) ∧ Fr [rb] w w' := by
  subst hmi
  have k1 := h.c1; have f1 := h.f1 1
  have hs := h.small; have ha := h.at_
  have hw : IntKind.i64.wrap ((p : Int) - (m : Int)) = ((p - m : Nat) : Int) := by rw [IntWalk.i64_in _ (by omega)]; omega
  have hst := h.step 0 (q := p - m) (by omega)
  have hF := fail_any k hst.1 hk
  have HF := Lib.hid (show Calls Tryz.prog 65 #[.pointer (some ⟨rb, 0, none⟩), .int .i64 k] (w.setCell ⟨rb, 1, none⟩ (.int .i64 ((p - m : Nat) : Int))) fun e w' => e = .panicked [failV rb k] ∧ (w.setCell ⟨rb, 1, none⟩ (.int .i64 ((p - m : Nat) : Int))) = w' from hF)
  have HS := Lib.hid (show Rd (w.setCell ⟨rb, 1, none⟩ (.int .i64 ((p - m : Nat) : Int))) rb A n c l (p - m) ∧ Fr [rb] w (w.setCell ⟨rb, 1, none⟩ (.int .i64 ((p - m : Nat) : Int))) from hst)
  clear h hst hF
  generalize ((p - m : Nat) : Int) = pm at *
  go_enter Tryz.func174, Tryz.ntmps174
  go_wp2_with fail
  refine HF.out.mono ?_
  rintro e w1 ⟨rfl, rfl⟩
  exact ⟨rfl, rfl, HS.out⟩
theorem sizeP_ok {l : Bs} {p q m v : Nat} (h : sizeP l m p = .ok (v, q)) : q = p + 4 ∧ v ≤ m := by
  unfold sizeP at h
  rcases hT : intP l p with e | ⟨z, q'⟩
  · rw [hT] at h; cases h
  · rw [hT] at h
    obtain ⟨h1, h2, h3⟩ := intP_ok hT
    have h4 : (if z < 0 ∨ (m : Int) < z then (.error (p, 22) : PR Nat) else .ok (z.toNat, q')) = .ok (v, q) := h
    by_cases hc : z < 0 ∨ (m : Int) < z
    · rw [if_pos hc] at h4; cases h4
    · rw [if_neg hc] at h4
      injection h4 with h4
      injection h4 with h4 h5
      omega
set_option maxRecDepth 100000 in
theorem rSize_any {w : World} {rb n c p : Nat} {A : Option Addr} {l : Bs} (mi : Int) (m : Nat) (hmi : mi = (m : Int)) (h : Rd w rb A n c l p) :
    Calls Tryz.prog 217 #[.pointer (some ⟨rb, 0, none⟩), .int .i64 mi] w (RdOut rb A n c l w (sizeP l m p) (fun v u _ => u = .int .i64 (v : Int))) := by
  subst hmi
  have hN := rInt_any h
  clear h
  rcases hT : intP l p with ⟨q, k⟩ | ⟨z, q⟩
  · have HG := Lib.hid (show sizeP l m p = .error (q, k) by unfold sizeP; rw [hT]; rfl)
    rw [hT] at hN
    have HN := Lib.hid hN
    clear hN hT
    go_enter Tryz.func217, Tryz.ntmps217
    go_wp2_with fail
    refine HN.out.mono ?_
    rintro e w2 ⟨rfl, hr, hf⟩
    refine ⟨rfl, ?_⟩
    rw [HG.out]
    exact ⟨rfl, hr, hf⟩
  · obtain ⟨rfl, z1, z2⟩ := intP_ok hT
    have hw : IntKind.i64.wrap z = z := IntWalk.i64_in _ (by omega)
    by_cases hc : z < 0 ∨ (m : Int) < z
    · have HG := Lib.hid (show sizeP l m p = .error (p, 22) by unfold sizeP; rw [hT]; exact if_pos hc)
      rw [hT] at hN
      have HN := Lib.hid hN
      clear hN hT
      have fin : ∀ (W : World), Rd W rb A n c l (p + 4) → Fr [rb] w W → Calls Tryz.prog 174 #[.pointer (some ⟨rb, 0, none⟩), .int .i64 4, .int .i64 22] W fun e w' => e = .panicked [failV rb 22] ∧ RdOut rb A n c l w (sizeP l m p) (fun v u _ => u = .int .i64 (v : Int)) e w' := fun W hr hf => by
        refine (back_any 4 4 rfl 22 hr (by omega) (by decide)).mono ?_
        rintro e w' ⟨rfl, hr2, hf2⟩
        rw [HG.out]
        exact ⟨rfl, rfl, hr2, hf.transJ hf2⟩
      have FIN := Lib.hid fin
      clear fin
      rcases Int.lt_or_le z 0 with h0 | h0
      · go_enter Tryz.func217, Tryz.ntmps217
        go_wp2_with fail
        refine HN.out.mono ?_
        rintro e w2 ⟨⟨u, rfl, rfl⟩, hr, hf⟩
        have HR := Lib.hid hr; have HF := Lib.hid hf
        clear hr hf
        go_wp2_with fail
        refine (FIN.out _ HR.out HF.out).mono ?_
        rintro e w3 ⟨rfl, ho⟩
        exact ⟨rfl, ho⟩
      · have h1 : (m : Int) < z := by omega
        have h2 : ¬ z < 0 := by omega
        go_enter Tryz.func217, Tryz.ntmps217
        go_wp2_with fail
        refine HN.out.mono ?_
        rintro e w2 ⟨⟨u, rfl, rfl⟩, hr, hf⟩
        have HR := Lib.hid hr; have HF := Lib.hid hf
        clear hr hf
        go_wp2_with fail
        refine (FIN.out _ HR.out HF.out).mono ?_
        rintro e w3 ⟨rfl, ho⟩
        exact ⟨rfl, ho⟩
    · have HG := Lib.hid (show sizeP l m p = .ok (z.toNat, p + 4) by unfold sizeP; rw [hT]; exact if_neg hc)
      rw [hT] at hN
      have HN := Lib.hid hN
      have h1 : ¬ (m : Int) < z := by omega
      have h2 : ¬ z < 0 := by omega
      have HZ := Lib.hid (show (z.toNat : Int) = z by omega)
      clear hN hT hc
      go_enter Tryz.func217, Tryz.ntmps217
      go_wp2_with fail
      refine HN.out.mono ?_
      rintro e w2 ⟨⟨u, rfl, rfl⟩, hr, hf⟩
      have HR := Lib.hid hr; have HF := Lib.hid hf
      clear hr hf
      go_wp2_with fail
      go_ret
      rw [HG.out]
      exact ⟨⟨_, rfl, congrArg (Value.int .i64) HZ.out.symm⟩, HR.out, HF.out⟩
theorem bytesP_ok {l : Bs} {p q m : Nat} {b : Bs} (h : bytesP l m p = .ok (b, q)) : q = p + 4 + b.length ∧ b.length ≤ m := by
  unfold bytesP at h
  rcases hT : sizeP l m p with e | ⟨k, q'⟩
  · rw [hT] at h; cases h
  · rw [hT] at h
    obtain ⟨h1, h2⟩ := sizeP_ok hT
    have h4 : (if l.length - q' < k then (.error (p, 20) : PR Bs) else .ok ((l.drop q').take k, q' + k)) = .ok (b, q) := h
    by_cases hc : l.length - q' < k
    · rw [if_pos hc] at h4; cases h4
    · rw [if_neg hc] at h4
      injection h4 with h4
      injection h4 with h4 h5
      have : b.length = k := by rw [← h4, List.length_take, List.length_drop]; omega
      omega
set_option maxRecDepth 100000 in
theorem rBytes_any {w : World} {rb n c p : Nat} {A : Option Addr} {l : Bs} (mi : Int) (m : Nat) (hmi : mi = (m : Int)) (h : Rd w rb A n c l p) (hm : m ≤ 1048576) :
    Calls Tryz.prog 172 #[.pointer (some ⟨rb, 0, none⟩), .int .i64 mi] w (RdOut rb A n c l w (bytesP l m p) (fun b u w' => BufAt rb b u w')) := by
  subst hmi
  have hN := rSize_any _ m rfl h
  have HLen := Lib.hid h.len
  clear h
  rcases hT : sizeP l m p with ⟨q, k⟩ | ⟨z, q⟩
  · have HG := Lib.hid (show bytesP l m p = .error (q, k) by unfold bytesP; rw [hT]; rfl)
    rw [hT] at hN
    have HN := Lib.hid hN
    clear hN hT
    go_enter Tryz.func172, Tryz.ntmps172
    go_wp2_with fail
    refine HN.out.mono ?_
    rintro e w2 ⟨rfl, hr, hf⟩
    refine ⟨rfl, ?_⟩
    rw [HG.out]
    exact ⟨rfl, hr, hf⟩
  · obtain ⟨rfl, z1⟩ := sizeP_ok hT
    rw [hT] at hN
    have HN := Lib.hid hN
    by_cases hc : l.length - (p + 4) < z
    · have HG := Lib.hid (show bytesP l m p = .error (p, 20) by unfold bytesP; rw [hT]; exact if_pos hc)
      clear hN hT
      go_enter Tryz.func172, Tryz.ntmps172
      go_wp2_with fail
      refine HN.out.mono ?_
      rintro e w2 ⟨⟨u, rfl, rfl⟩, hr, hf⟩
      have HR := Lib.hid hr; have HF := Lib.hid hf
      have HL := Lib.hid (left_any hr)
      have h1 : ((n : Int) - ((p + 4 : Nat) : Int)) < (z : Int) := by rw [HLen.out] at hc; have := hr.at_; omega
      clear hr hf
      go_wp2_with fail
      refine HL.out.mono ?_
      rintro e w3 ⟨rfl, q3, rfl⟩
      go_wp2_with fail
      refine (back_any 4 4 rfl 20 (HR.out.drewN q3) (by omega) (by decide)).mono ?_
      rintro e w4 ⟨rfl, hr2, hf2⟩
      refine ⟨rfl, ?_⟩
      rw [HG.out]
      exact ⟨rfl, hr2, (HF.out.transJ (Fr.drewJ _ q3)).transJ hf2⟩
    · have HG := Lib.hid (show bytesP l m p = .ok ((l.drop (p + 4)).take z, p + 4 + z) by unfold bytesP; rw [hT]; exact if_neg hc)
      have HT := Lib.hid (show takeP l z (p + 4) = .ok ((l.drop (p + 4)).take z, p + 4 + z) by unfold takeP; exact if_neg hc)
      clear hN hT
      go_enter Tryz.func172, Tryz.ntmps172
      go_wp2_with fail
      refine HN.out.mono ?_
      rintro e w2 ⟨⟨u, rfl, rfl⟩, hr, hf⟩
      have HR := Lib.hid hr; have HF := Lib.hid hf
      have HL := Lib.hid (left_any hr)
      have h1 : ¬ ((n : Int) - ((p + 4 : Nat) : Int)) < (z : Int) := by rw [HLen.out] at hc; have := hr.at_; omega
      clear hr hf
      go_wp2_with fail
      refine HL.out.mono ?_
      rintro e w3 ⟨rfl, q3, rfl⟩
      have hX := next_any z (HR.out.drewN q3) (by omega)
      rw [HT.out] at hX
      have HX := Lib.hid hX
      clear hX
      go_wp2_with fail
      refine HX.out.mono ?_
      rintro e w4 ⟨⟨u, rfl, hu⟩, hr, hf⟩
      have HR4 := Lib.hid hr; have HF4 := Lib.hid hf; have HU := Lib.hid hu
      clear hr hf hu
      go_wp2_with fail
      go_ret
      rw [HG.out]
      exact ⟨⟨_, rfl, HU.out⟩, HR4.out, (HF.out.transJ (Fr.drewJ _ q3)).transJ HF4.out⟩
end Go.Proofs.YthpjneobmmpbnaaGreatDoor
namespace Go.Proofs.YthpjneobmmpbnaaGreatDoor
open Go.RowKit Go.MapKept Go.Maps Go.Lib
/-- a slice value that holds these bytes, without spare room -/
def B8 (w : World) (B : Nat) (v : Value) (t : Bs) : Prop := ∃ A, v = .slice A t.length t.length ∧ Sl w B enc8 1 A t.length t
theorem B8.below {w w' : World} {B : Nat} {v : Value} {t : Bs} (h : B8 w B v t) (hb : Below B w w') : B8 w' B v t := by
  obtain ⟨A, e, hs⟩ := h
  exact ⟨A, e, hs.below hb⟩
theorem B8.form {w : World} {B : Nat} {v : Value} {t : Bs} (h : B8 w B v t) (h0 : 0 < t.length) : ∃ b off, v = .slice (some ⟨b, off, none⟩) t.length t.length ∧ b < B ∧ ∀ j, j < t.length → w.cell? ⟨b, off + j, none⟩ = some (.int .u8 ((t.getD j 0).toNat : Int)) := by
  obtain ⟨A, rfl, hs⟩ := h
  obtain ⟨b, off, rfl, hb, hc⟩ := hs.2 h0
  refine ⟨b, off, rfl, hb, fun j hj => ?_⟩
  have := hc j hj 0 _ rfl
  rw [show t.getD j 0 = t[j]! by rw [getElem!_pos t j hj, List.getD_eq_getElem?_getD, List.getElem?_eq_getElem hj]; rfl]
  simpa using this
theorem B8.drop {w : World} {B b off k : Nat} {t : Bs} (h : B8 w B (.slice (some ⟨b, off, none⟩) t.length t.length) t) (hk : k ≤ t.length) : B8 w B (.slice (if t.length = k then some ⟨b, off, none⟩ else some ⟨b, off + k, none⟩) (t.length - k) (t.length - k)) (t.drop k) := by
  obtain ⟨A, e, hs⟩ := h
  injection e with e _ _
  subst e
  have hl : (t.drop k).length = t.length - k := List.length_drop
  refine ⟨if t.length = k then some ⟨b, off, none⟩ else some ⟨b, off + k, none⟩, by rw [hl], ?_⟩
  rw [hl]
  refine ⟨hl, fun h0 => ?_⟩
  obtain ⟨b2, off2, e, hb, hc⟩ := hs.2 (by omega)
  injection e with e
  injection e with e1 e2 _
  subst e1; subst e2
  rw [if_neg (by omega)]
  refine ⟨_, _, rfl, hb, fun j hj i u hu => ?_⟩
  have e1 : (t.drop k)[j]! = t[k + j]! := by
    rw [getElem!_pos _ j (by rw [hl]; exact hj), getElem!_pos t (k + j) (by omega)]; simp
  have := hc (k + j) (by omega) i u (by rw [← hu, e1])
  rw [← this]; congr 2; omega
theorem slice_fromB (b off n k : Nat) (hk : k ≤ n) (w : World) : (Instr.sliceAt 22 (.slice (some ⟨b, off, none⟩) n n) (some (.int .i64 (k : Int))) none none).run Tryz.prog w = .ok (.slice (if n = k then some ⟨b, off, none⟩ else some ⟨b, off + k, none⟩) (n - k) (n - k)) w := by
  have h0 : (0 : Int) ≤ ↑k := by omega
  have h1 : ((k : Nat) : Int) ≤ ↑n := by omega
  go_simp
def asc8 (t : Bs) (k : Nat) : Prop := ∀ b ∈ t.take k, b.toNat < 128
theorem asc8_add {t : Bs} {a b : Nat} (h : asc8 t a) (k : asc8 (t.drop a) b) : asc8 t (a + b) := by
  unfold asc8 at *
  rw [List.take_add]
  intro x hx
  rcases List.mem_append.1 hx with h' | h'
  · exact h x h'
  · exact k x h'
theorem asc8_skip {t : Bs} {k : Nat} (h : asc8 t k) : validD (t.drop k) = validD t := (validD_ascii k _ h).symm
theorem asc8_one {t : Bs} (h0 : 0 < t.length) (h : (t.getD 0 0).toNat < 128) : asc8 t 1 := by
  unfold asc8
  match t, h0, h with
  | a :: r, _, h => intro x hx; simp at hx; subst hx; simpa using h
def wd8 (t : Bs) : Nat := leNat [t.getD 0 0, t.getD 1 0, t.getD 2 0, t.getD 3 0, t.getD 4 0, t.getD 5 0, t.getD 6 0, t.getD 7 0]
theorem take8L (t : Bs) (h : 8 ≤ t.length) : [t.getD 0 0, t.getD 1 0, t.getD 2 0, t.getD 3 0, t.getD 4 0, t.getD 5 0, t.getD 6 0, t.getD 7 0] = t.take 8 := by
  match t, h with
  | a0 :: a1 :: a2 :: a3 :: a4 :: a5 :: a6 :: a7 :: r, _ => simp
theorem wd8_asc (t : Bs) (h : 8 ≤ t.length) : (wd8 t &&& 9259542123273814144 = 0) ↔ asc8 t 8 := by
  have h8 : (t.take 8).length = 8 := by rw [List.length_take]; omega
  have := leNat_mask (t.take 8)
  rw [h8, maskN8] at this
  unfold wd8
  rw [take8L t h]
  exact this
theorem wd8_lt (t : Bs) : wd8 t < 18446744073709551616 := by
  have h := leNat_lt [t.getD 0 0, t.getD 1 0, t.getD 2 0, t.getD 3 0, t.getD 4 0, t.getD 5 0, t.getD 6 0, t.getD 7 0]
  show leNat _ < _
  simpa using h
set_option maxHeartbeats 8000000 in
set_option maxRecDepth 100000 in
theorem wd8_any {B : Nat} {v : Value} {t : Bs} (w : World) (h : B8 w B v t) (h8 : 8 ≤ t.length) :
    Calls Tryz.prog 218 #[v] w fun e w' => e = .returned (.int .u64 ((wd8 t : Nat) : Int)) ∧ ∃ q, w' = w.drewN q := by
  obtain ⟨b, off, rfl, _, hc⟩ := h.form (by omega)
  clear h
  have c0 := hc 0 (by omega)
  have q0 : (0 : Int) < (t.length : Int) := by omega
  have c1 := hc 1 (by omega)
  have q1 : (1 : Int) < (t.length : Int) := by omega
  have c2 := hc 2 (by omega)
  have q2 : (2 : Int) < (t.length : Int) := by omega
  have c3 := hc 3 (by omega)
  have q3 : (3 : Int) < (t.length : Int) := by omega
  have c4 := hc 4 (by omega)
  have q4 : (4 : Int) < (t.length : Int) := by omega
  have c5 := hc 5 (by omega)
  have q5 : (5 : Int) < (t.length : Int) := by omega
  have c6 := hc 6 (by omega)
  have q6 : (6 : Int) < (t.length : Int) := by omega
  have c7 := hc 7 (by omega)
  have q7 : (7 : Int) < (t.length : Int) := by omega
  clear hc
  rw [Nat.add_zero] at c0
  obtain ⟨x0, hx0⟩ : ∃ x0, t.getD 0 0 = x0 := ⟨_, rfl⟩
  have h0 : x0.toNat < 256 := x0.toNat_lt
  obtain ⟨x1, hx1⟩ : ∃ x1, t.getD 1 0 = x1 := ⟨_, rfl⟩
  have h1 : x1.toNat < 256 := x1.toNat_lt
  obtain ⟨x2, hx2⟩ : ∃ x2, t.getD 2 0 = x2 := ⟨_, rfl⟩
  have h2 : x2.toNat < 256 := x2.toNat_lt
  obtain ⟨x3, hx3⟩ : ∃ x3, t.getD 3 0 = x3 := ⟨_, rfl⟩
  have h3 : x3.toNat < 256 := x3.toNat_lt
  obtain ⟨x4, hx4⟩ : ∃ x4, t.getD 4 0 = x4 := ⟨_, rfl⟩
  have h4 : x4.toNat < 256 := x4.toNat_lt
  obtain ⟨x5, hx5⟩ : ∃ x5, t.getD 5 0 = x5 := ⟨_, rfl⟩
  have h5 : x5.toNat < 256 := x5.toNat_lt
  obtain ⟨x6, hx6⟩ : ∃ x6, t.getD 6 0 = x6 := ⟨_, rfl⟩
  have h6 : x6.toNat < 256 := x6.toNat_lt
  obtain ⟨x7, hx7⟩ : ∃ x7, t.getD 7 0 = x7 := ⟨_, rfl⟩
  have h7 : x7.toNat < 256 := x7.toNat_lt
  unfold wd8
  rw [hx0, hx1, hx2, hx3, hx4, hx5, hx6, hx7]
  rw [hx0] at c0
  rw [hx1] at c1
  rw [hx2] at c2
  rw [hx3] at c3
  rw [hx4] at c4
  rw [hx5] at c5
  rw [hx6] at c6
  rw [hx7] at c7
  have hv : ((leNat [x0, x1, x2, x3, x4, x5, x6, x7] : Nat) : Int) = (x0.toNat : Int) + (x1.toNat : Int) * 256 + (x2.toNat : Int) * 65536 + (x3.toNat : Int) * 16777216 + (x4.toNat : Int) * 4294967296 + (x5.toNat : Int) * 1099511627776 + (x6.toNat : Int) * 281474976710656 + (x7.toNat : Int) * 72057594037927936 := by
    simp only [leNat]
    push_cast
    omega
  clear hx0 hx1 hx2 hx3 hx4 hx5 hx6 hx7
  have HV := Lib.hid hv
  clear hv
  go_enter Tryz.func218, Tryz.ntmps218
  go_wp2
  go_quiet (fail)
  go_wp2
  go_ret
  refine ⟨?_, _, rfl⟩
  simp (disch := omega) only [u64_or8, u64_or16, u64_or24, u64_or32, u64_or40, u64_or48, u64_or56]
  rw [HV.out]
  rfl
theorem wd8_q {B : Nat} {v : Value} {t : Bs} {w : World} (h : B8 w B v t) (h8 : 8 ≤ t.length) (N : Nat) (hN : wd8 t = N) (q : Nat) :
    Calls Tryz.prog 218 #[v] (w.drewN q) fun e w' => e = .returned (.int .u64 (N : Int)) ∧ ∃ n, w' = w.drewN n := by
  refine (wd8_any (w.drewN q) (h.below (drewN_below (Below.refl _ _) q)) h8).mono ?_
  rintro e w' ⟨rfl, n, rfl⟩
  rw [hN]
  exact ⟨rfl, q + n, World.drewN_drewN ..⟩
theorem wd8_0 {B : Nat} {v : Value} {t : Bs} {w : World} (h : B8 w B v t) (h8 : 8 ≤ t.length) (N : Nat) (hN : wd8 t = N) :
    Calls Tryz.prog 218 #[v] w fun e w' => e = .returned (.int .u64 (N : Int)) ∧ ∃ n, w' = w.drewN n := wd8_q h h8 N hN 0
set_option maxHeartbeats 16000000 in
set_option maxRecDepth 1000000 in
theorem valid8_any {B : Nat} {A0 : Option Addr} {n0 c0 : Nat} {s : Bs} (w : World) (h : Sl w B enc8 1 A0 n0 s) (hB : B ≤ w.heap.size) (hc0 : n0 ≤ c0) (hn0 : n0 ≤ 4294967296) (hT : Lib.Utf8Tabs 1 2 w) :
    Calls Tryz.prog 173 #[.slice A0 n0 c0] w fun e w' => e = .returned (.bool (validD s)) ∧ Below w.heap.size w w' := by
  obtain ⟨ANS, hANS⟩ : ∃ ANS, validD s = ANS := ⟨_, rfl⟩
  rw [hANS]
  have H8 := Lib.hid (show B8 w B (.slice A0 n0 n0) s from ⟨A0, by rw [h.len], h.len.symm ▸ h⟩)
  have HL := Lib.hid h.len
  have HANS := Lib.hid hANS
  have hsl0 : ∀ w : World, (Instr.sliceAt 22 (.slice A0 n0 c0) none (some (.int .i64 (n0 : Int))) (some (.int .i64 (n0 : Int)))).run Tryz.prog w = .ok (.slice A0 n0 n0) w := fun w => by
    have h0 : ((n0 : Nat) : Int) ≤ ↑c0 := by omega
    go_simp
  clear h hANS
  go_enter Tryz.func173, Tryz.ntmps173
  go_wp2_with fail
  go_loopg [0] (s.length + 1) (fun gk s0 wx => Below w.heap.size w wx ∧ ∃ t : Bs, B8 wx B s0 t ∧ validD t = ANS ∧ t.length < gk ∧ t.length ≤ 4294967296)
  case atStart => exact ⟨Below.refl _ _, s, H8.out, HANS.out, by omega, by rw [HL.out]; exact hn0⟩
  case round =>
    obtain ⟨hbw, t, h8, hv, hg, hts⟩ := hrel
    have HTr := Lib.hid (Utf8Tabs_below hT hbw)
    have HBW := Lib.hid hbw
    have HV := Lib.hid hv
    have HBs := Lib.hid (show B ≤ wr.heap.size from Nat.le_trans hB hbw.size)
    clear hbw hv
    by_cases h0 : 0 < t.length
    · obtain ⟨g', rfl⟩ : ∃ g', gk = g' + 1 := ⟨gk - 1, by omega⟩
      have h0z : (0 : Int) < (t.length : Int) := by omega
      obtain ⟨b, off, rfl, hbB, hc⟩ := h8.form h0
      have H8 := Lib.hid h8
      clear h8
      obtain ⟨x0, hx0⟩ : ∃ x0, t.getD 0 0 = x0 := ⟨_, rfl⟩
      have hx0lt : x0.toNat < 256 := x0.toNat_lt
      have c0 := hc 0 h0
      rw [Nat.add_zero, hx0] at c0
      have HX0 := Lib.hid hx0
      clear hc hx0
      by_cases hasc : x0.toNat < 128
      · as_aux_lemma =>
        have hascz : (x0.toNat : Int) < 128 := by omega
        have a1 : asc8 t 1 := asc8_one h0 (by rw [HX0.out]; exact hasc)
        obtain ⟨t1, ht1⟩ : ∃ t1, t.drop 1 = t1 := ⟨_, rfl⟩
        have z1 : t1.length + 1 = t.length := by rw [← ht1, List.length_drop]; omega
        have V1 := Lib.hid (show validD t1 = ANS by rw [← ht1, asc8_skip a1]; exact HV.out)
        have hs1 := slice_fromB b off t.length 1 h0
        have hB1 := H8.out.drop h0
        rw [ht1] at hB1
        rw [show ((1 : Nat) : Int) = 1 from rfl] at hs1
        rw [show t.length - 1 = t1.length by omega] at hs1 hB1
        generalize (if t.length = 1 then some (Addr.mk b off none) else some (Addr.mk b (off + 1) none)) = A1 at hs1 hB1
        have HB1 := Lib.hid hB1
        clear a1 hB1 ht1
        by_cases c8 : 8 < t1.length
        · have c8z : (8 : Int) < (t1.length : Int) := by omega
          obtain ⟨b1, off1, e1, hb1B, _⟩ := HB1.out.form (by omega)
          injection e1 with e1 _ _
          subst e1
          obtain ⟨N1, hN1⟩ : ∃ N1, wd8 t1 = N1 := ⟨_, rfl⟩
          have lN1 : N1 < 18446744073709551616 := hN1 ▸ wd8_lt t1
          have CN1 := Lib.hid (wd8_q HB1.out (by omega) N1 hN1)
          have DN1 := Lib.hid (wd8_0 HB1.out (by omega) N1 hN1)
          have kN1 := wd8_asc t1 (by omega)
          rw [hN1] at kN1
          have KN1 := Lib.hid kN1
          clear kN1 hN1
          have hand1 : bits .and .u64 (N1 : Int) 9259542123273814144 = ((N1 &&& 9259542123273814144 : Nat) : Int) := u64_and_nat N1 9259542123273814144 lN1 (by omega)
          have k1 : N1 &&& 9259542123273814144 = 0 → asc8 t1 8 := KN1.out.1
          generalize N1 &&& 9259542123273814144 = Z1 at hand1 k1
          have K1 := Lib.hid k1
          clear k1
          by_cases hz1 : Z1 = 0
          · have hz1b : ((Z1 : Int) == 0) = true := by simp [hz1]
            obtain ⟨t2, ht2⟩ : ∃ t2, t1.drop 8 = t2 := ⟨_, rfl⟩
            have zt2 : t2.length + 8 = t1.length := by rw [← ht2, List.length_drop]; omega
            have st2 := slice_fromB b1 off1 t1.length 8 (by omega)
            have Bt2 := HB1.out.drop (k := 8) (by omega)
            rw [ht2] at Bt2
            rw [show ((8 : Nat) : Int) = 8 from rfl] at st2
            rw [show t1.length - 8 = t2.length by omega] at st2 Bt2
            rw [if_neg (by omega)] at st2 Bt2
            generalize off1 + 8 = off2 at st2 Bt2
            have Ht2 := Lib.hid ht2
            have HBt2 := Lib.hid Bt2
            clear ht2 Bt2
            have V2 := Lib.hid (show validD t2 = ANS by rw [← Ht2.out, asc8_skip (K1.out hz1)]; exact V1.out)
            go_wp2_with (with_reducible refine DN1.out.mono ?_; rintro e W1 ⟨rfl, q1, rfl⟩)
            have HBQ := Lib.hid (drewN_below HBW.out q1)
            have HBt2q := Lib.hid (show B8 (wr.drewN q1) B _ t2 from HBt2.out)
            generalize wr.drewN q1 = wq at HBQ HBt2q ⊢
            clear CN1 DN1 HBt2
            by_cases c16 : 16 < t2.length
            · as_aux_lemma =>
              have c16z : (16 : Int) < (t2.length : Int) := by omega
              obtain ⟨t2b, ht2b⟩ : ∃ t2b, t2.drop 8 = t2b := ⟨_, rfl⟩
              have zt2b : t2b.length + 8 = t2.length := by rw [← ht2b, List.length_drop]; omega
              have st2b := slice_fromB b1 off2 t2.length 8 (by omega)
              have Bt2b := HBt2q.out.drop (k := 8) (by omega)
              rw [ht2b] at Bt2b
              rw [show ((8 : Nat) : Int) = 8 from rfl] at st2b
              rw [show t2.length - 8 = t2b.length by omega] at st2b Bt2b
              rw [if_neg (by omega)] at st2b Bt2b
              generalize off2 + 8 = off2b at st2b Bt2b
              have Ht2b := Lib.hid ht2b
              have HBt2b := Lib.hid Bt2b
              clear ht2b Bt2b
              obtain ⟨N2, hN2⟩ : ∃ N2, wd8 t2 = N2 := ⟨_, rfl⟩
              have lN2 : N2 < 18446744073709551616 := hN2 ▸ wd8_lt t2
              have CN2 := Lib.hid (wd8_q HBt2q.out (by omega) N2 hN2)
              have DN2 := Lib.hid (wd8_0 HBt2q.out (by omega) N2 hN2)
              have kN2 := wd8_asc t2 (by omega)
              rw [hN2] at kN2
              have KN2 := Lib.hid kN2
              clear kN2 hN2
              obtain ⟨N3, hN3⟩ : ∃ N3, wd8 t2b = N3 := ⟨_, rfl⟩
              have lN3 : N3 < 18446744073709551616 := hN3 ▸ wd8_lt t2b
              have CN3 := Lib.hid (wd8_q HBt2b.out (by omega) N3 hN3)
              have DN3 := Lib.hid (wd8_0 HBt2b.out (by omega) N3 hN3)
              have kN3 := wd8_asc t2b (by omega)
              rw [hN3] at kN3
              have KN3 := Lib.hid kN3
              clear kN3 hN3
              have hor2 : bits .or .u64 (N2 : Int) (N3 : Int) = ((N2 ||| N3 : Nat) : Int) := u64_or_nat N2 N3 lN2 lN3
              have lor2 : N2 ||| N3 < 18446744073709551616 := Nat.or_lt_two_pow (n := 64) lN2 lN3
              have hand2 : bits .and .u64 ((N2 ||| N3 : Nat) : Int) 9259542123273814144 = (((N2 ||| N3) &&& 9259542123273814144 : Nat) : Int) := u64_and_nat _ 9259542123273814144 lor2 (by omega)
              have k2 : (N2 ||| N3) &&& 9259542123273814144 = 0 → asc8 t2 16 := fun h0' => by
                obtain ⟨e1, e2⟩ := (Lib.or_mask N2 N3 _).1 h0'
                exact asc8_add (a := 8) (b := 8) (KN2.out.1 e1) (by rw [Ht2b.out]; exact KN3.out.1 e2)
              generalize N2 ||| N3 = O2 at hor2 hand2 k2 lor2
              generalize O2 &&& 9259542123273814144 = Z2 at hand2 k2
              have K2 := Lib.hid k2
              clear k2
              by_cases hz2 : Z2 = 0
              · have hz2b : ((Z2 : Int) == 0) = true := by simp [hz2]
                obtain ⟨t3, ht3⟩ : ∃ t3, t2.drop 16 = t3 := ⟨_, rfl⟩
                have zt3 : t3.length + 16 = t2.length := by rw [← ht3, List.length_drop]; omega
                have st3 := slice_fromB b1 off2 t2.length 16 (by omega)
                have Bt3 := HBt2q.out.drop (k := 16) (by omega)
                rw [ht3] at Bt3
                rw [show ((16 : Nat) : Int) = 16 from rfl] at st3
                rw [show t2.length - 16 = t3.length by omega] at st3 Bt3
                rw [if_neg (by omega)] at st3 Bt3
                generalize off2 + 16 = off3 at st3 Bt3
                have Ht3 := Lib.hid ht3
                have HBt3 := Lib.hid Bt3
                clear ht3 Bt3
                have V3 := Lib.hid (show validD t3 = ANS by rw [← Ht3.out, asc8_skip (K2.out hz2)]; exact V2.out)
                go_quiet (first | (with_reducible exact CN2.out _) | (with_reducible exact CN3.out _))
                have HBR := Lib.hid (drewN_below HBQ.out nq)
                have HBt3q := Lib.hid (show B8 (wq.drewN nq) B _ t3 from HBt3.out)
                generalize wq.drewN nq = wq2 at HBR HBt3q ⊢
                clear CN2 CN3 DN2 DN3 HBt3
                go_wp2_with fail
                go_loopg [0] (t3.length + 1) (fun g2 s0 wx => Below w.heap.size w wx ∧ ∃ u : Bs, B8 wx B s0 u ∧ validD u = ANS ∧ u.length < g2 ∧ u.length ≤ t3.length)
                case atStart => exact ⟨HBR.out, t3, HBt3q.out, V3.out, by omega, Nat.le_refl _⟩
                case round =>
                 as_aux_lemma =>
                  obtain ⟨hbu, u, hu8, vu, hgu, hut⟩ := hrel
                  have HBU := Lib.hid hbu
                  have VU := Lib.hid vu
                  clear hbu vu
                  by_cases c32 : 32 < u.length
                  · obtain ⟨g3, rfl⟩ : ∃ g3, gk = g3 + 1 := ⟨gk - 1, by omega⟩
                    have c32z : (32 : Int) < (u.length : Int) := by omega
                    obtain ⟨bu, offu, rfl, _, _⟩ := hu8.form (by omega)
                    have HU8 := Lib.hid hu8
                    clear hu8
                    obtain ⟨ub, hub⟩ : ∃ ub, u.drop 8 = ub := ⟨_, rfl⟩
                    have zub : ub.length + 8 = u.length := by rw [← hub, List.length_drop]; omega
                    have sub := slice_fromB bu offu u.length 8 (by omega)
                    have Bub := HU8.out.drop (k := 8) (by omega)
                    rw [hub] at Bub
                    rw [show ((8 : Nat) : Int) = 8 from rfl] at sub
                    rw [show u.length - 8 = ub.length by omega] at sub Bub
                    rw [if_neg (by omega)] at sub Bub
                    generalize offu + 8 = offb at sub Bub
                    have Hub := Lib.hid hub
                    have HBub := Lib.hid Bub
                    clear hub Bub
                    obtain ⟨uc, huc⟩ : ∃ uc, u.drop 16 = uc := ⟨_, rfl⟩
                    have zuc : uc.length + 16 = u.length := by rw [← huc, List.length_drop]; omega
                    have suc := slice_fromB bu offu u.length 16 (by omega)
                    have Buc := HU8.out.drop (k := 16) (by omega)
                    rw [huc] at Buc
                    rw [show ((16 : Nat) : Int) = 16 from rfl] at suc
                    rw [show u.length - 16 = uc.length by omega] at suc Buc
                    rw [if_neg (by omega)] at suc Buc
                    generalize offu + 16 = offc at suc Buc
                    have Huc := Lib.hid huc
                    have HBuc := Lib.hid Buc
                    clear huc Buc
                    obtain ⟨ud, hud⟩ : ∃ ud, u.drop 24 = ud := ⟨_, rfl⟩
                    have zud : ud.length + 24 = u.length := by rw [← hud, List.length_drop]; omega
                    have sud := slice_fromB bu offu u.length 24 (by omega)
                    have Bud := HU8.out.drop (k := 24) (by omega)
                    rw [hud] at Bud
                    rw [show ((24 : Nat) : Int) = 24 from rfl] at sud
                    rw [show u.length - 24 = ud.length by omega] at sud Bud
                    rw [if_neg (by omega)] at sud Bud
                    generalize offu + 24 = offd at sud Bud
                    have Hud := Lib.hid hud
                    have HBud := Lib.hid Bud
                    clear hud Bud
                    obtain ⟨u2, hu2⟩ : ∃ u2, u.drop 32 = u2 := ⟨_, rfl⟩
                    have zu2 : u2.length + 32 = u.length := by rw [← hu2, List.length_drop]; omega
                    have su2 := slice_fromB bu offu u.length 32 (by omega)
                    have Bu2 := HU8.out.drop (k := 32) (by omega)
                    rw [hu2] at Bu2
                    rw [show ((32 : Nat) : Int) = 32 from rfl] at su2
                    rw [show u.length - 32 = u2.length by omega] at su2 Bu2
                    rw [if_neg (by omega)] at su2 Bu2
                    generalize offu + 32 = offe at su2 Bu2
                    have Hu2 := Lib.hid hu2
                    have HBu2 := Lib.hid Bu2
                    clear hu2 Bu2
                    obtain ⟨M0, hM0⟩ : ∃ M0, wd8 u = M0 := ⟨_, rfl⟩
                    have lM0 : M0 < 18446744073709551616 := hM0 ▸ wd8_lt u
                    have CM0 := Lib.hid (wd8_q HU8.out (by omega) M0 hM0)
                    have DM0 := Lib.hid (wd8_0 HU8.out (by omega) M0 hM0)
                    have kM0 := wd8_asc u (by omega)
                    rw [hM0] at kM0
                    have KM0 := Lib.hid kM0
                    clear kM0 hM0
                    obtain ⟨M1, hM1⟩ : ∃ M1, wd8 ub = M1 := ⟨_, rfl⟩
                    have lM1 : M1 < 18446744073709551616 := hM1 ▸ wd8_lt ub
                    have CM1 := Lib.hid (wd8_q HBub.out (by omega) M1 hM1)
                    have DM1 := Lib.hid (wd8_0 HBub.out (by omega) M1 hM1)
                    have kM1 := wd8_asc ub (by omega)
                    rw [hM1] at kM1
                    have KM1 := Lib.hid kM1
                    clear kM1 hM1
                    obtain ⟨M2, hM2⟩ : ∃ M2, wd8 uc = M2 := ⟨_, rfl⟩
                    have lM2 : M2 < 18446744073709551616 := hM2 ▸ wd8_lt uc
                    have CM2 := Lib.hid (wd8_q HBuc.out (by omega) M2 hM2)
                    have DM2 := Lib.hid (wd8_0 HBuc.out (by omega) M2 hM2)
                    have kM2 := wd8_asc uc (by omega)
                    rw [hM2] at kM2
                    have KM2 := Lib.hid kM2
                    clear kM2 hM2
                    obtain ⟨M3, hM3⟩ : ∃ M3, wd8 ud = M3 := ⟨_, rfl⟩
                    have lM3 : M3 < 18446744073709551616 := hM3 ▸ wd8_lt ud
                    have CM3 := Lib.hid (wd8_q HBud.out (by omega) M3 hM3)
                    have DM3 := Lib.hid (wd8_0 HBud.out (by omega) M3 hM3)
                    have kM3 := wd8_asc ud (by omega)
                    rw [hM3] at kM3
                    have KM3 := Lib.hid kM3
                    clear kM3 hM3
                    have ho1 : bits .or .u64 (M0 : Int) (M1 : Int) = ((M0 ||| M1 : Nat) : Int) := u64_or_nat M0 M1 lM0 lM1
                    have ho2 : bits .or .u64 (M2 : Int) (M3 : Int) = ((M2 ||| M3 : Nat) : Int) := u64_or_nat M2 M3 lM2 lM3
                    have lo1 : M0 ||| M1 < 18446744073709551616 := Nat.or_lt_two_pow (n := 64) lM0 lM1
                    have lo2 : M2 ||| M3 < 18446744073709551616 := Nat.or_lt_two_pow (n := 64) lM2 lM3
                    have ho3 : bits .or .u64 ((M0 ||| M1 : Nat) : Int) ((M2 ||| M3 : Nat) : Int) = (((M0 ||| M1) ||| (M2 ||| M3) : Nat) : Int) := u64_or_nat _ _ lo1 lo2
                    have lo3 : (M0 ||| M1) ||| (M2 ||| M3) < 18446744073709551616 := Nat.or_lt_two_pow (n := 64) lo1 lo2
                    have hand3 : bits .and .u64 (((M0 ||| M1) ||| (M2 ||| M3) : Nat) : Int) 9259542123273814144 = ((((M0 ||| M1) ||| (M2 ||| M3)) &&& 9259542123273814144 : Nat) : Int) := u64_and_nat _ 9259542123273814144 lo3 (by omega)
                    have k3 : ((M0 ||| M1) ||| (M2 ||| M3)) &&& 9259542123273814144 = 0 → asc8 u 32 := fun h0' => by
                      obtain ⟨e01, e23⟩ := (Lib.or_mask _ _ _).1 h0'
                      obtain ⟨e0, e1⟩ := (Lib.or_mask _ _ _).1 e01
                      obtain ⟨e2, e3⟩ := (Lib.or_mask _ _ _).1 e23
                      have s16 : asc8 u 16 := asc8_add (a := 8) (b := 8) (KM0.out.1 e0) (by rw [Hub.out]; exact KM1.out.1 e1)
                      have s24 : asc8 u 24 := asc8_add (a := 16) (b := 8) s16 (by rw [Huc.out]; exact KM2.out.1 e2)
                      exact asc8_add (a := 24) (b := 8) s24 (by rw [Hud.out]; exact KM3.out.1 e3)
                    generalize M0 ||| M1 = P1 at ho1 ho3 hand3 k3 lo1 lo3
                    generalize M2 ||| M3 = P2 at ho2 ho3 hand3 k3 lo2 lo3
                    generalize P1 ||| P2 = P3 at ho3 hand3 k3 lo3
                    generalize P3 &&& 9259542123273814144 = Z3 at hand3 k3
                    have K3 := Lib.hid k3
                    clear k3
                    by_cases hz3 : Z3 = 0
                    · have hz3b : ((Z3 : Int) == 0) = true := by simp [hz3]
                      have VU2 := Lib.hid (show validD u2 = ANS by rw [← Hu2.out, asc8_skip (K3.out hz3)]; exact VU.out)
                      go_wp2_with fail
                      go_quiet (first | (with_reducible exact CM0.out _) | (with_reducible exact CM1.out _) | (with_reducible exact CM2.out _) | (with_reducible exact CM3.out _))
                      go_wp2
                      go_roundg g3
                      case measure => omega
                      case rel => exact ⟨drewN_below HBU.out nq, u2, HBu2.out, VU2.out, by omega, by omega⟩
                    · have hz3b : ((Z3 : Int) == 0) = false := by simp; omega
                      go_wp2_with fail
                      go_quiet (first | (with_reducible exact CM0.out _) | (with_reducible exact CM1.out _) | (with_reducible exact CM2.out _) | (with_reducible exact CM3.out _))
                      go_wp2
                      go_roundg g'
                      case measure => omega
                      case rel => exact ⟨drewN_below HBU.out nq, u, HU8.out, VU.out, by omega, by omega⟩
                  · have c32z : ¬ ((32 : Int) < (u.length : Int)) := by omega
                    have c32b : decide ((32 : Int) < (u.length : Int)) = false := decide_eq_false c32z
                    obtain ⟨Au, rfl, hsu⟩ := hu8
                    have HSU := Lib.hid hsu
                    clear hsu
                    go_wp2_with fail
                    go_quiet (fail)
                    go_wp2
                    go_roundg g'
                    case measure => omega
                    case rel => exact ⟨drewN_below HBU.out nq, u, ⟨Au, rfl, HSU.out⟩, VU.out, by omega, by omega⟩
              · have hz2b : ((Z2 : Int) == 0) = false := by simp; omega
                go_quiet (first | (with_reducible exact CN2.out _) | (with_reducible exact CN3.out _))
                go_wp2
                go_roundg g'
                case measure => omega
                case rel => exact ⟨drewN_below HBQ.out nq, t2, HBt2q.out, V2.out, by omega, by omega⟩
            · have c16z : ¬ ((16 : Int) < (t2.length : Int)) := by omega
              have c16b : decide ((16 : Int) < (t2.length : Int)) = false := decide_eq_false c16z
              go_quiet (fail)
              go_wp2
              go_roundg g'
              case measure => omega
              case rel => exact ⟨drewN_below HBQ.out nq, t2, HBt2q.out, V2.out, by omega, by omega⟩
          · have hz1b : ((Z1 : Int) == 0) = false := by simp; omega
            go_wp2_with (with_reducible refine DN1.out.mono ?_; rintro e W1 ⟨rfl, q1, rfl⟩)
            go_roundg g'
            case measure => omega
            case rel => exact ⟨drewN_below HBW.out q1, t1, HB1.out, V1.out, by omega, by omega⟩
        · have c8z : ¬ ((8 : Int) < (t1.length : Int)) := by omega
          go_wp2
          go_roundg g'
          case measure => omega
          case rel => exact ⟨HBW.out, t1, HB1.out, V1.out, by omega, by omega⟩
      · as_aux_lemma =>
        have hge : 128 ≤ x0.toNat := by omega
        have hascz : ¬ ((x0.toNat : Int) < 128) := by omega
        obtain ⟨x1, hx1⟩ : ∃ x1, t.getD 1 0 = x1 := ⟨_, rfl⟩
        obtain ⟨x2, hx2⟩ : ∃ x2, t.getD 2 0 = x2 := ⟨_, rfl⟩
        obtain ⟨x3, hx3⟩ : ∃ x3, t.getD 3 0 = x3 := ⟨_, rfl⟩
        have l1 := x1.toNat_lt; have l2 := x2.toNat_lt; have l3 := x3.toNat_lt
        have hne : t ≠ [] := fun h => by rw [h] at h0; simp at h0
        have hlead := Lib.validD_lead t hne (by rw [HX0.out]; exact hge)
        rw [HX0.out, hx1, hx2, hx3, HV.out] at hlead
        have hc0 := HTr.out.1 x0.toNat hx0lt
        have hXlt : Lib.firstT x0.toNat < 256 := by rcases Lib.firstT_cases x0.toNat with h | h | h | h | h | h | h | h | h <;> omega
        obtain ⟨X, hX⟩ : ∃ X, Lib.firstT x0.toNat = X := ⟨_, rfl⟩
        rw [hX] at hc0 hXlt hlead
        have h7 := and7 ⟨X, hXlt⟩
        simp only at h7
        have ha0 : wr.cell? ⟨2, X / 16 * 2, none⟩ = some (.int .u8 (Lib.accLo (X / 16))) := by rw [Nat.mul_comm]; exact (HTr.out.2 (X / 16) (by omega)).1
        have ha1 : wr.cell? ⟨2, X / 16 * 2 + 1, none⟩ = some (.int .u8 (Lib.accHi (X / 16))) := by rw [Nat.mul_comm]; exact (HTr.out.2 (X / 16) (by omega)).2
        obtain ⟨LO, hLO⟩ : ∃ LO, Lib.accLo (X / 16) = LO := ⟨_, rfl⟩
        obtain ⟨HI, hHI⟩ : ∃ HI, Lib.accHi (X / 16) = HI := ⟨_, rfl⟩
        rw [hLO] at ha0 hlead
        rw [hHI] at ha1 hlead
        obtain ⟨SZ, hSZ⟩ : ∃ SZ, X % 8 = SZ := ⟨_, rfl⟩
        rw [hSZ] at hlead
        have HWA := Lib.hid (HBW.out.alloc HBW.out.size (.cells #[.int .u8 (LO : Int), .int .u8 (HI : Int)] 213))
        have HCA := Lib.hid (H8.out.below ((Below.refl B wr).alloc HBs.out (.cells #[.int .u8 (LO : Int), .int .u8 (HI : Int)] 213)))
        have HG := Lib.hid (heap_alloc_new wr (.cells #[.int .u8 (LO : Int), .int .u8 (HI : Int)] 213))
        have HX1 := Lib.hid hx1; have HX2 := Lib.hid hx2; have HX3 := Lib.hid hx3
        clear hX hLO hHI hne hx1 hx2 hx3
        by_cases s2 : SZ = 2
        · as_aux_lemma =>
          subst s2
          have hSZz : (X : Int) % 8 = 2 := by omega
          simp only [Lib.checkN, Nat.reduceEqDiff, if_true, if_false] at hlead
          have HLD := Lib.hid hlead
          clear hlead
          go_upto_region 18 with fail
          generalize wr.alloc (.cells #[.int .u8 (LO : Int), .int .u8 (HI : Int)] 213) = W at HWA HCA HG ⊢
          obtain ⟨b', off', e', hbB', hcA⟩ := HCA.out.form h0
          injection e' with e' _ _
          injection e' with e'
          injection e' with e1 e2 _
          subst e1; subst e2
          have k0 : W.cell? ⟨wr.heap.size, 0, none⟩ = some (.int .u8 (LO : Int)) := by rw [cellH HG.out]; rfl
          have k1 : W.cell? ⟨wr.heap.size, 1, none⟩ = some (.int .u8 (HI : Int)) := by rw [cellH HG.out]; rfl
          have HCC := Lib.hid hcA
          clear hcA
          go_cut [103] from 85 to 103 (fun c wx => c = .bool (decide (t.length < 2 ∨ x1.toNat < LO ∨ HI < x1.toNat)) ∧ ∃ q, wx = W.drewN q)
          case first =>
            by_cases q0 : t.length < 2
            · have q0z : (t.length : Int) < 2 := by omega
              go_quiet (fail)
              go_wp2
              go_meet
              exact ⟨congrArg Value.bool (decide_eq_true (p := t.length < 2 ∨ x1.toNat < LO ∨ HI < x1.toNat) (by omega)).symm, nq, rfl⟩
            · have q0z : ¬ ((t.length : Int) < 2) := by omega
              have hz1 : (1 : Int) < (t.length : Int) := by omega
              have y1 := HCC.out 1 (by omega)
              rw [HX1.out] at y1
              by_cases q1 : x1.toNat < LO
              · have q1z : (x1.toNat : Int) < (LO : Int) := by omega
                go_quiet (fail)
                go_wp2
                go_meet
                exact ⟨congrArg Value.bool (decide_eq_true (p := t.length < 2 ∨ x1.toNat < LO ∨ HI < x1.toNat) (by omega)).symm, nq, rfl⟩
              · have q1z : ¬ ((x1.toNat : Int) < (LO : Int)) := by omega
                by_cases q2 : HI < x1.toNat
                · have q2z : (HI : Int) < (x1.toNat : Int) := by omega
                  go_quiet (fail)
                  go_wp2
                  go_meet
                  exact ⟨congrArg Value.bool (decide_eq_true (p := t.length < 2 ∨ x1.toNat < LO ∨ HI < x1.toNat) (by omega)).symm, nq, rfl⟩
                · have q2z : ¬ ((HI : Int) < (x1.toNat : Int)) := by omega
                  go_quiet (fail)
                  go_wp2
                  go_meet
                  exact ⟨congrArg Value.bool (decide_eq_false (p := t.length < 2 ∨ x1.toNat < LO ∨ HI < x1.toNat) (by omega)).symm, nq, rfl⟩
          case rest =>
            obtain ⟨rfl, q, rfl⟩ := hcut
            by_cases hb : t.length < 2 ∨ x1.toNat < LO ∨ HI < x1.toNat
            · have hbd : decide (t.length < 2 ∨ x1.toNat < LO ∨ HI < x1.toNat) = true := decide_eq_true hb
              have hl2 := HLD.out
              rw [if_pos hb] at hl2
              have HL2 := Lib.hid hl2
              clear hl2
              go_wp2
              all_goals (go_ret; exact ⟨by rw [HL2.out]; rfl, drewN_below HWA.out q⟩)
            · have hbd : decide (t.length < 2 ∨ x1.toNat < LO ∨ HI < x1.toNat) = false := decide_eq_false hb
              have hl2 := HLD.out
              rw [if_neg hb] at hl2
              have HL2 := Lib.hid hl2
              clear hl2
              have hsl := slice_fromB b off t.length 2 (by omega)
              have hBd := HCA.out.drop (k := 2) (by omega)
              rw [show ((2 : Nat) : Int) = 2 from rfl] at hsl
              generalize (if t.length = 2 then some (Addr.mk b off none) else some (Addr.mk b (off + 2) none)) = A2 at hsl hBd
              have hlz : (t.drop 2).length = t.length - 2 := List.length_drop
              have HBD := Lib.hid hBd
              clear hBd
              go_wp2
              go_roundg g'
              case measure => omega
              case rel => exact ⟨drewN_below HWA.out q, _, HBD.out, HL2.out.symm, by omega, by omega⟩
        by_cases s3 : SZ = 3
        · as_aux_lemma =>
          subst s3
          have hSZz : (X : Int) % 8 = 3 := by omega
          simp only [Lib.checkN, Nat.reduceEqDiff, if_true, if_false] at hlead
          have HLD := Lib.hid hlead
          clear hlead
          go_upto_region 22 with fail
          generalize wr.alloc (.cells #[.int .u8 (LO : Int), .int .u8 (HI : Int)] 213) = W at HWA HCA HG ⊢
          obtain ⟨b', off', e', hbB', hcA⟩ := HCA.out.form h0
          injection e' with e' _ _
          injection e' with e'
          injection e' with e1 e2 _
          subst e1; subst e2
          have k0 : W.cell? ⟨wr.heap.size, 0, none⟩ = some (.int .u8 (LO : Int)) := by rw [cellH HG.out]; rfl
          have k1 : W.cell? ⟨wr.heap.size, 1, none⟩ = some (.int .u8 (HI : Int)) := by rw [cellH HG.out]; rfl
          have HCC := Lib.hid hcA
          clear hcA
          go_cut [138] from 108 to 138 (fun c wx => c = .bool (decide (t.length < 3 ∨ x1.toNat < LO ∨ HI < x1.toNat ∨ x2.toNat < 128 ∨ 191 < x2.toNat)) ∧ ∃ q, wx = W.drewN q)
          case first =>
            by_cases q0 : t.length < 3
            · have q0z : (t.length : Int) < 3 := by omega
              go_quiet (fail)
              go_wp2
              go_meet
              exact ⟨congrArg Value.bool (decide_eq_true (p := t.length < 3 ∨ x1.toNat < LO ∨ HI < x1.toNat ∨ x2.toNat < 128 ∨ 191 < x2.toNat) (by omega)).symm, nq, rfl⟩
            · have q0z : ¬ ((t.length : Int) < 3) := by omega
              have hz1 : (1 : Int) < (t.length : Int) := by omega
              have y1 := HCC.out 1 (by omega)
              rw [HX1.out] at y1
              have hz2 : (2 : Int) < (t.length : Int) := by omega
              have y2 := HCC.out 2 (by omega)
              rw [HX2.out] at y2
              by_cases q1 : x1.toNat < LO
              · have q1z : (x1.toNat : Int) < (LO : Int) := by omega
                go_quiet (fail)
                go_wp2
                go_meet
                exact ⟨congrArg Value.bool (decide_eq_true (p := t.length < 3 ∨ x1.toNat < LO ∨ HI < x1.toNat ∨ x2.toNat < 128 ∨ 191 < x2.toNat) (by omega)).symm, nq, rfl⟩
              · have q1z : ¬ ((x1.toNat : Int) < (LO : Int)) := by omega
                by_cases q2 : HI < x1.toNat
                · have q2z : (HI : Int) < (x1.toNat : Int) := by omega
                  go_quiet (fail)
                  go_wp2
                  go_meet
                  exact ⟨congrArg Value.bool (decide_eq_true (p := t.length < 3 ∨ x1.toNat < LO ∨ HI < x1.toNat ∨ x2.toNat < 128 ∨ 191 < x2.toNat) (by omega)).symm, nq, rfl⟩
                · have q2z : ¬ ((HI : Int) < (x1.toNat : Int)) := by omega
                  by_cases q3 : x2.toNat < 128
                  · have q3z : (x2.toNat : Int) < 128 := by omega
                    go_quiet (fail)
                    go_wp2
                    go_meet
                    exact ⟨congrArg Value.bool (decide_eq_true (p := t.length < 3 ∨ x1.toNat < LO ∨ HI < x1.toNat ∨ x2.toNat < 128 ∨ 191 < x2.toNat) (by omega)).symm, nq, rfl⟩
                  · have q3z : ¬ ((x2.toNat : Int) < 128) := by omega
                    by_cases q4 : 191 < x2.toNat
                    · have q4z : (191 : Int) < (x2.toNat : Int) := by omega
                      go_quiet (fail)
                      go_wp2
                      go_meet
                      exact ⟨congrArg Value.bool (decide_eq_true (p := t.length < 3 ∨ x1.toNat < LO ∨ HI < x1.toNat ∨ x2.toNat < 128 ∨ 191 < x2.toNat) (by omega)).symm, nq, rfl⟩
                    · have q4z : ¬ ((191 : Int) < (x2.toNat : Int)) := by omega
                      go_quiet (fail)
                      go_wp2
                      go_meet
                      exact ⟨congrArg Value.bool (decide_eq_false (p := t.length < 3 ∨ x1.toNat < LO ∨ HI < x1.toNat ∨ x2.toNat < 128 ∨ 191 < x2.toNat) (by omega)).symm, nq, rfl⟩
          case rest =>
            obtain ⟨rfl, q, rfl⟩ := hcut
            by_cases hb : t.length < 3 ∨ x1.toNat < LO ∨ HI < x1.toNat ∨ x2.toNat < 128 ∨ 191 < x2.toNat
            · have hbd : decide (t.length < 3 ∨ x1.toNat < LO ∨ HI < x1.toNat ∨ x2.toNat < 128 ∨ 191 < x2.toNat) = true := decide_eq_true hb
              have hl2 := HLD.out
              rw [if_pos hb] at hl2
              have HL2 := Lib.hid hl2
              clear hl2
              go_wp2
              all_goals (go_ret; exact ⟨by rw [HL2.out]; rfl, drewN_below HWA.out q⟩)
            · have hbd : decide (t.length < 3 ∨ x1.toNat < LO ∨ HI < x1.toNat ∨ x2.toNat < 128 ∨ 191 < x2.toNat) = false := decide_eq_false hb
              have hl2 := HLD.out
              rw [if_neg hb] at hl2
              have HL2 := Lib.hid hl2
              clear hl2
              have hsl := slice_fromB b off t.length 3 (by omega)
              have hBd := HCA.out.drop (k := 3) (by omega)
              rw [show ((3 : Nat) : Int) = 3 from rfl] at hsl
              generalize (if t.length = 3 then some (Addr.mk b off none) else some (Addr.mk b (off + 3) none)) = A2 at hsl hBd
              have hlz : (t.drop 3).length = t.length - 3 := List.length_drop
              have HBD := Lib.hid hBd
              clear hBd
              go_wp2
              go_roundg g'
              case measure => omega
              case rel => exact ⟨drewN_below HWA.out q, _, HBD.out, HL2.out.symm, by omega, by omega⟩
        by_cases s4 : SZ = 4
        · as_aux_lemma =>
          subst s4
          have hSZz : (X : Int) % 8 = 4 := by omega
          simp only [Lib.checkN, Nat.reduceEqDiff, if_true, if_false] at hlead
          have HLD := Lib.hid hlead
          clear hlead
          go_upto_region 26 with fail
          generalize wr.alloc (.cells #[.int .u8 (LO : Int), .int .u8 (HI : Int)] 213) = W at HWA HCA HG ⊢
          obtain ⟨b', off', e', hbB', hcA⟩ := HCA.out.form h0
          injection e' with e' _ _
          injection e' with e'
          injection e' with e1 e2 _
          subst e1; subst e2
          have k0 : W.cell? ⟨wr.heap.size, 0, none⟩ = some (.int .u8 (LO : Int)) := by rw [cellH HG.out]; rfl
          have k1 : W.cell? ⟨wr.heap.size, 1, none⟩ = some (.int .u8 (HI : Int)) := by rw [cellH HG.out]; rfl
          have HCC := Lib.hid hcA
          clear hcA
          go_cut [185] from 143 to 185 (fun c wx => c = .bool (decide (t.length < 4 ∨ x1.toNat < LO ∨ HI < x1.toNat ∨ x2.toNat < 128 ∨ 191 < x2.toNat ∨ x3.toNat < 128 ∨ 191 < x3.toNat)) ∧ ∃ q, wx = W.drewN q)
          case first =>
            by_cases q0 : t.length < 4
            · have q0z : (t.length : Int) < 4 := by omega
              go_quiet (fail)
              go_wp2
              go_meet
              exact ⟨congrArg Value.bool (decide_eq_true (p := t.length < 4 ∨ x1.toNat < LO ∨ HI < x1.toNat ∨ x2.toNat < 128 ∨ 191 < x2.toNat ∨ x3.toNat < 128 ∨ 191 < x3.toNat) (by omega)).symm, nq, rfl⟩
            · have q0z : ¬ ((t.length : Int) < 4) := by omega
              have hz1 : (1 : Int) < (t.length : Int) := by omega
              have y1 := HCC.out 1 (by omega)
              rw [HX1.out] at y1
              have hz2 : (2 : Int) < (t.length : Int) := by omega
              have y2 := HCC.out 2 (by omega)
              rw [HX2.out] at y2
              have hz3 : (3 : Int) < (t.length : Int) := by omega
              have y3 := HCC.out 3 (by omega)
              rw [HX3.out] at y3
              by_cases q1 : x1.toNat < LO
              · have q1z : (x1.toNat : Int) < (LO : Int) := by omega
                go_quiet (fail)
                go_wp2
                go_meet
                exact ⟨congrArg Value.bool (decide_eq_true (p := t.length < 4 ∨ x1.toNat < LO ∨ HI < x1.toNat ∨ x2.toNat < 128 ∨ 191 < x2.toNat ∨ x3.toNat < 128 ∨ 191 < x3.toNat) (by omega)).symm, nq, rfl⟩
              · have q1z : ¬ ((x1.toNat : Int) < (LO : Int)) := by omega
                by_cases q2 : HI < x1.toNat
                · have q2z : (HI : Int) < (x1.toNat : Int) := by omega
                  go_quiet (fail)
                  go_wp2
                  go_meet
                  exact ⟨congrArg Value.bool (decide_eq_true (p := t.length < 4 ∨ x1.toNat < LO ∨ HI < x1.toNat ∨ x2.toNat < 128 ∨ 191 < x2.toNat ∨ x3.toNat < 128 ∨ 191 < x3.toNat) (by omega)).symm, nq, rfl⟩
                · have q2z : ¬ ((HI : Int) < (x1.toNat : Int)) := by omega
                  by_cases q3 : x2.toNat < 128
                  · have q3z : (x2.toNat : Int) < 128 := by omega
                    go_quiet (fail)
                    go_wp2
                    go_meet
                    exact ⟨congrArg Value.bool (decide_eq_true (p := t.length < 4 ∨ x1.toNat < LO ∨ HI < x1.toNat ∨ x2.toNat < 128 ∨ 191 < x2.toNat ∨ x3.toNat < 128 ∨ 191 < x3.toNat) (by omega)).symm, nq, rfl⟩
                  · have q3z : ¬ ((x2.toNat : Int) < 128) := by omega
                    by_cases q4 : 191 < x2.toNat
                    · have q4z : (191 : Int) < (x2.toNat : Int) := by omega
                      go_quiet (fail)
                      go_wp2
                      go_meet
                      exact ⟨congrArg Value.bool (decide_eq_true (p := t.length < 4 ∨ x1.toNat < LO ∨ HI < x1.toNat ∨ x2.toNat < 128 ∨ 191 < x2.toNat ∨ x3.toNat < 128 ∨ 191 < x3.toNat) (by omega)).symm, nq, rfl⟩
                    · have q4z : ¬ ((191 : Int) < (x2.toNat : Int)) := by omega
                      by_cases q5 : x3.toNat < 128
                      · have q5z : (x3.toNat : Int) < 128 := by omega
                        go_quiet (fail)
                        go_wp2
                        go_meet
                        exact ⟨congrArg Value.bool (decide_eq_true (p := t.length < 4 ∨ x1.toNat < LO ∨ HI < x1.toNat ∨ x2.toNat < 128 ∨ 191 < x2.toNat ∨ x3.toNat < 128 ∨ 191 < x3.toNat) (by omega)).symm, nq, rfl⟩
                      · have q5z : ¬ ((x3.toNat : Int) < 128) := by omega
                        by_cases q6 : 191 < x3.toNat
                        · have q6z : (191 : Int) < (x3.toNat : Int) := by omega
                          go_quiet (fail)
                          go_wp2
                          go_meet
                          exact ⟨congrArg Value.bool (decide_eq_true (p := t.length < 4 ∨ x1.toNat < LO ∨ HI < x1.toNat ∨ x2.toNat < 128 ∨ 191 < x2.toNat ∨ x3.toNat < 128 ∨ 191 < x3.toNat) (by omega)).symm, nq, rfl⟩
                        · have q6z : ¬ ((191 : Int) < (x3.toNat : Int)) := by omega
                          go_quiet (fail)
                          go_wp2
                          go_meet
                          exact ⟨congrArg Value.bool (decide_eq_false (p := t.length < 4 ∨ x1.toNat < LO ∨ HI < x1.toNat ∨ x2.toNat < 128 ∨ 191 < x2.toNat ∨ x3.toNat < 128 ∨ 191 < x3.toNat) (by omega)).symm, nq, rfl⟩
          case rest =>
            obtain ⟨rfl, q, rfl⟩ := hcut
            by_cases hb : t.length < 4 ∨ x1.toNat < LO ∨ HI < x1.toNat ∨ x2.toNat < 128 ∨ 191 < x2.toNat ∨ x3.toNat < 128 ∨ 191 < x3.toNat
            · have hbd : decide (t.length < 4 ∨ x1.toNat < LO ∨ HI < x1.toNat ∨ x2.toNat < 128 ∨ 191 < x2.toNat ∨ x3.toNat < 128 ∨ 191 < x3.toNat) = true := decide_eq_true hb
              have hl2 := HLD.out
              rw [if_pos hb] at hl2
              have HL2 := Lib.hid hl2
              clear hl2
              go_wp2
              all_goals (go_ret; exact ⟨by rw [HL2.out]; rfl, drewN_below HWA.out q⟩)
            · have hbd : decide (t.length < 4 ∨ x1.toNat < LO ∨ HI < x1.toNat ∨ x2.toNat < 128 ∨ 191 < x2.toNat ∨ x3.toNat < 128 ∨ 191 < x3.toNat) = false := decide_eq_false hb
              have hl2 := HLD.out
              rw [if_neg hb] at hl2
              have HL2 := Lib.hid hl2
              clear hl2
              have hsl := slice_fromB b off t.length 4 (by omega)
              have hBd := HCA.out.drop (k := 4) (by omega)
              rw [show ((4 : Nat) : Int) = 4 from rfl] at hsl
              generalize (if t.length = 4 then some (Addr.mk b off none) else some (Addr.mk b (off + 4) none)) = A2 at hsl hBd
              have hlz : (t.drop 4).length = t.length - 4 := List.length_drop
              have HBD := Lib.hid hBd
              clear hBd
              go_wp2
              go_roundg g'
              case measure => omega
              case rel => exact ⟨drewN_below HWA.out q, _, HBD.out, HL2.out.symm, by omega, by omega⟩
        · have e2 : ¬ ((X : Int) % 8 = 2) := by omega
          have e3 : ¬ ((X : Int) % 8 = 3) := by omega
          have e4 : ¬ ((X : Int) % 8 = 4) := by omega
          have e2b : (((X : Int) % 8) == 2) = false := by simp; omega
          have e3b : (((X : Int) % 8) == 3) = false := by simp; omega
          have e4b : (((X : Int) % 8) == 4) = false := by simp; omega
          simp only [Lib.checkN, s2, s3, s4, if_false] at hlead
          have HLD := Lib.hid hlead
          clear hlead
          go_wp2
          all_goals (go_ret; exact ⟨by rw [HLD.out]; rfl, HWA.out⟩)
    · have h0z : ¬ ((0 : Int) < (t.length : Int)) := by omega
      have ht0 : t = [] := List.eq_nil_of_length_eq_zero (by omega)
      obtain ⟨At, rfl, _⟩ := h8
      have HE := Lib.hid (show true = ANS by have := HV.out; rw [ht0, Lib.validD_nil] at this; exact this)
      go_wp2
      go_ret
      exact ⟨by rw [HE.out]; rfl, HBW.out⟩
end Go.Proofs.YthpjneobmmpbnaaGreatDoor
namespace Go.Proofs.YthpjneobmmpbnaaGreatDoor
open Go.RowKit Go.MapKept Go.Maps
def toBA (b : Bs) : ByteArray := ⟨b.toArray⟩
/-- the tables, apart from the Reader -/
structure TabsR (rb : Nat) (w : World) : Prop where
  tabs : Lib.Utf8Tabs 1 2 w
  n1 : 1 < rb
  n2 : 2 < rb
theorem TabsR.fr {rb : Nat} {w w' : World} (h : TabsR rb w) (hf : Fr [rb] w w') : TabsR rb w' := by
  obtain ⟨t, n1, n2⟩ := h
  have hk : ∀ (p : Addr) v, p.block < rb → w.cell? p = some v → w'.cell? p = some v := fun p v hp hv => by
    rw [← hv]; exact hf.cellJ (World.block_lt_of_cell? w _ hv) (by simp; omega)
  exact ⟨⟨fun c hc => hk _ _ n1 (t.1 c hc), fun i hi => ⟨hk _ _ n2 (t.2 i hi).1, hk _ _ n2 (t.2 i hi).2⟩⟩, n1, n2⟩
theorem Fr.belowJ {own : List Nat} {w w1 w2 : World} (h : Fr own w w1) (hb : Below w.heap.size w1 w2) : Fr own w w2 :=
  ⟨hb.os.trans h.os, hb.tape.trans h.tape, hb.output.trans h.output, Nat.le_trans h.size hb.size, fun g hg hn => (hb.block g hg).trans (h.block g hg hn)⟩
theorem Rd.belowB {w w' : World} {rb n c p B : Nat} {A : Option Addr} {l : Bs} (h : Rd w rb A n c l p) (hb : Below B w w') (hB : rb < B) : Rd w' rb A n c l p :=
  ⟨(hb.block rb hB).trans h.cell, h.sl.below ⟨hb.os, hb.tape, hb.output, hb.size, fun g hg => hb.block g (by omega)⟩, h.at_, h.small, h.cap, h.nil⟩
theorem conv_slT {w : World} {B n c : Nat} {A : Option Addr} {l : Bs} (h : Sl w B enc8 1 A n l) :
    (convert 22 9 (.slice A n c)).run Tryz.prog w = .ok (.string (toBA l)) w := by
  have hl := h.len
  rcases Nat.eq_zero_or_pos n with h0 | h0
  · subst h0
    have := List.eq_nil_of_length_eq_zero hl
    subst this
    cases A with
    | none => exact Lib.run_convert_nil_bytes w 22 9 5 c Tryz.underlying22 Tryz.underlying5 Tryz.underlying9
    | some a => exact run_convert_bytes_back w 22 9 5 a c [] Tryz.underlying22 Tryz.underlying5 Tryz.underlying9 (fun j hj => absurd hj (by simp))
  · obtain ⟨b, off, rfl, _, hc⟩ := h.2 h0
    subst hl
    refine run_convert_bytes_back w 22 9 5 ⟨b, off, none⟩ c l Tryz.underlying22 Tryz.underlying5 Tryz.underlying9 ?_
    intro j hj
    have := hc j hj 0 _ rfl
    rw [getElem!_pos l j hj] at this
    have e2 : (⟨b, off, none⟩ : Addr).add j = ⟨b, off + j, none⟩ := by
      simp only [Addr.add]; by_cases h0 : j = 0 <;> simp [h0]
    rw [e2]
    simpa using this
set_option maxRecDepth 100000 in
theorem rText_any {w : World} {rb n c p : Nat} {A : Option Addr} {l : Bs} (mi : Int) (m : Nat) (hmi : mi = (m : Int)) (h : Rd w rb A n c l p) (hm : m ≤ 1048576) (hT : TabsR rb w) :
    Calls Tryz.prog 115 #[.pointer (some ⟨rb, 0, none⟩), .int .i64 mi] w (RdOut rb A n c l w (textP l m p) (fun b u _ => u = .string (toBA b))) := by
  subst hmi
  have hN := rBytes_any _ m rfl h hm
  have HD := Lib.hid (done_any h)
  have HT := Lib.hid hT
  clear h hT
  rcases hT : bytesP l m p with ⟨q, k⟩ | ⟨b, q⟩
  · have HG := Lib.hid (show textP l m p = .error (q, k) by unfold textP; rw [hT]; rfl)
    rw [hT] at hN
    have HN := Lib.hid hN
    clear hN hT
    go_enter Tryz.func115, Tryz.ntmps115
    go_wp2_with fail
    refine HD.out.mono ?_
    rintro e w1 ⟨rfl, rfl⟩
    go_wp2_with fail
    refine HN.out.mono ?_
    rintro e w2 ⟨rfl, hr, hf⟩
    refine ⟨rfl, ?_⟩
    rw [HG.out]
    exact ⟨rfl, hr, hf⟩
  · obtain ⟨rfl, hbm⟩ := bytesP_ok hT
    rw [hT] at hN
    have HN := Lib.hid hN
    by_cases hv : Lib.validD b = true
    · have HG := Lib.hid (show textP l m p = .ok (b, p + 4 + b.length) by unfold textP; rw [hT]; exact if_pos hv)
      clear hN hT
      go_enter Tryz.func115, Tryz.ntmps115
      go_wp2_with fail
      refine HD.out.mono ?_
      rintro e w1 ⟨rfl, rfl⟩
      go_wp2_with fail
      refine HN.out.mono ?_
      rintro e w2 ⟨⟨u, rfl, A2, c2, rfl, hs, hn, hc2⟩, hr, hf⟩
      have hV := valid8_any w2 hs (Nat.le_of_lt hr.lt) hc2 (by omega) (HT.out.fr hf).tabs
      rw [hv] at hV
      have HV := Lib.hid hV; have HR := Lib.hid hr; have HF := Lib.hid hf; have HS := Lib.hid hs
      clear hV hr hf hs hn
      go_wp2_with fail
      refine HV.out.mono ?_
      rintro e w3 ⟨rfl, hb⟩
      have HR3 := Lib.hid (HR.out.below hb)
      have HF3 := Lib.hid (HF.out.transJ (Fr.of_below hb))
      have hcv := conv_slT (c := c2) ((HS.out.more (Nat.le_of_lt HR.out.lt)).below hb)
      clear hb
      go_wp2_with fail
      go_ret
      rw [HG.out]
      exact ⟨⟨_, rfl, rfl⟩, HR3.out, HF3.out⟩
    · have HG := Lib.hid (show textP l m p = .error (p, 22) by unfold textP; rw [hT]; exact if_neg hv)
      have hv2 : Lib.validD b = false := by simpa using hv
      clear hN hT hv
      go_enter Tryz.func115, Tryz.ntmps115
      go_wp2_with fail
      refine HD.out.mono ?_
      rintro e w1 ⟨rfl, rfl⟩
      go_wp2_with fail
      refine HN.out.mono ?_
      rintro e w2 ⟨⟨u, rfl, A2, c2, rfl, hs, hn, hc2⟩, hr, hf⟩
      have hV := valid8_any w2 hs (Nat.le_of_lt hr.lt) hc2 (by omega) (HT.out.fr hf).tabs
      rw [hv2] at hV
      have HV := Lib.hid hV; have HR := Lib.hid hr; have HF := Lib.hid hf
      have hw : IntKind.i64.wrap (4 + (b.length : Int)) = ((4 + b.length : Nat) : Int) := by rw [IntWalk.i64_in _ (by omega)]; omega
      clear hV hr hf hs hn
      go_wp2_with fail
      refine HV.out.mono ?_
      rintro e w3 ⟨rfl, hb⟩
      have HR3 := Lib.hid (HR.out.below hb)
      have HF3 := Lib.hid (HF.out.transJ (Fr.of_below hb))
      clear hb
      go_wp2_with fail
      refine (back_any _ (4 + b.length) (by omega) 22 HR3.out (by omega) (by decide)).mono ?_
      rintro e w4 ⟨rfl, hr2, hf2⟩
      refine ⟨rfl, ?_⟩
      rw [HG.out]
      rw [show p + 4 + b.length - (4 + b.length) = p by omega] at hr2
      exact ⟨rfl, hr2, HF3.out.transJ hf2⟩
theorem left_nat {w : World} {rb n c p : Nat} {A : Option Addr} {l : Bs} (h : Rd w rb A n c l p) :
    Calls Tryz.prog 171 #[.pointer (some ⟨rb, 0, none⟩)] w fun e w' => e = .returned (.int .i64 ((n - p : Nat) : Int)) ∧ ∃ q, w' = w.drewN q := by
  have ha := h.at_
  rw [show ((n - p : Nat) : Int) = (n : Int) - (p : Int) by omega]
  exact left_any h
theorem countP_ok {l : Bs} {m k p q v : Nat} (h : countP l m k p = .ok (v, q)) : q = p + 4 ∧ v ≤ m := by
  unfold countP at h
  rcases hT : sizeP l m p with e | ⟨z, q'⟩
  · rw [hT] at h; cases h
  · rw [hT] at h
    have h1 := sizeP_ok hT
    have h4 : (if 1 ≤ k ∧ (l.length - q') / k < z then (.error (p, 20) : PR Nat) else .ok (z, q')) = .ok (v, q) := h
    by_cases hc : 1 ≤ k ∧ (l.length - q') / k < z
    · rw [if_pos hc] at h4; cases h4
    · rw [if_neg hc] at h4
      injection h4 with h4
      injection h4 with h4 h5
      subst h4; subst h5
      exact h1
set_option maxRecDepth 100000 in
theorem rCount_any {w : World} {rb n c p : Nat} {A : Option Addr} {l : Bs} (mi : Int) (m : Nat) (hmi : mi = (m : Int)) (ki : Int) (k : Nat) (hki : ki = (k : Int)) (hk : 1 ≤ k) (hk2 : k ≤ 1048576) (h : Rd w rb A n c l p) :
    Calls Tryz.prog 178 #[.pointer (some ⟨rb, 0, none⟩), .int .i64 mi, .int .i64 ki] w (RdOut rb A n c l w (countP l m k p) (fun v u _ => u = .int .i64 (v : Int))) := by
  subst hmi; subst hki
  have hN := rSize_any _ m rfl h
  have HD := Lib.hid (done_any h)
  have HLen := Lib.hid h.len
  have hn := h.small
  clear h
  rcases hT : sizeP l m p with ⟨q, e0⟩ | ⟨z, q⟩
  · have HG := Lib.hid (show countP l m k p = .error (q, e0) by unfold countP; rw [hT]; rfl)
    rw [hT] at hN
    have HN := Lib.hid hN
    clear hN hT
    go_enter Tryz.func178, Tryz.ntmps178
    go_wp2_with fail
    refine HD.out.mono ?_
    rintro e w1 ⟨rfl, rfl⟩
    go_wp2_with fail
    refine HN.out.mono ?_
    rintro e w2 ⟨rfl, hr, hf⟩
    refine ⟨rfl, ?_⟩
    rw [HG.out]
    exact ⟨rfl, hr, hf⟩
  · obtain ⟨rfl, z1⟩ := sizeP_ok hT
    rw [hT] at hN
    have HN := Lib.hid hN
    have hk1 : ((k : Nat) : Int) ≥ 1 := by omega
    have hk0 : ¬ ((k : Nat) : Int) = 0 := by omega
    obtain ⟨D, hD⟩ : ∃ D, n - (p + 4) = D := ⟨_, rfl⟩
    have hq : wrap64 ((D : Int) / (k : Int)) = ((D / k : Nat) : Int) := by
      rw [← Int.natCast_ediv]
      have := Nat.div_le_self D k
      unfold wrap64
      generalize D / k = X at *
      omega
    have HDn := Lib.hid hD
    clear hD
    by_cases hc : D / k < z
    · have HG := Lib.hid (show countP l m k p = .error (p, 20) by unfold countP; rw [hT]; exact if_pos ⟨hk, by rw [HLen.out, HDn.out]; exact hc⟩)
      have h1 : ((D / k : Nat) : Int) < (z : Int) := by omega
      clear hN hT hc
      generalize D / k = Q at *
      go_enter Tryz.func178, Tryz.ntmps178
      go_wp2_with fail
      refine HD.out.mono ?_
      rintro e w1 ⟨rfl, rfl⟩
      go_wp2_with fail
      refine HN.out.mono ?_
      rintro e w2 ⟨⟨u, rfl, rfl⟩, hr, hf⟩
      have HR := Lib.hid hr; have HF := Lib.hid hf
      have hL := left_nat hr
      rw [HDn.out] at hL
      have HL := Lib.hid hL
      clear hr hf hL
      go_wp2_with fail
      refine HL.out.mono ?_
      rintro e w3 ⟨rfl, q3, rfl⟩
      go_wp2_with fail
      refine (back_any 4 4 rfl 20 (HR.out.drewN q3) (by omega) (by decide)).mono ?_
      rintro e w4 ⟨rfl, hr2, hf2⟩
      refine ⟨rfl, ?_⟩
      rw [HG.out]
      exact ⟨rfl, hr2, (HF.out.transJ (Fr.drewJ _ q3)).transJ hf2⟩
    · have HG := Lib.hid (show countP l m k p = .ok (z, p + 4) by unfold countP; rw [hT]; exact if_neg fun h => hc (by rw [HLen.out, HDn.out] at h; exact h.2))
      have h1 : ¬ ((D / k : Nat) : Int) < (z : Int) := by omega
      clear hN hT hc
      generalize D / k = Q at *
      go_enter Tryz.func178, Tryz.ntmps178
      go_wp2_with fail
      refine HD.out.mono ?_
      rintro e w1 ⟨rfl, rfl⟩
      go_wp2_with fail
      refine HN.out.mono ?_
      rintro e w2 ⟨⟨u, rfl, rfl⟩, hr, hf⟩
      have HR := Lib.hid hr; have HF := Lib.hid hf
      have hL := left_nat hr
      rw [HDn.out] at hL
      have HL := Lib.hid hL
      clear hr hf hL
      go_wp2_with fail
      refine HL.out.mono ?_
      rintro e w3 ⟨rfl, q3, rfl⟩
      go_wp2_with fail
      go_ret
      rw [HG.out]
      exact ⟨⟨_, rfl, rfl⟩, HR.out.drewN q3, HF.out.transJ (Fr.drewJ _ q3)⟩
def idV (v : Bs × Bs) : IdV := (toBA v.1, toBA v.2)
set_option maxRecDepth 100000 in
theorem getId_any {w : World} {rb n c p : Nat} {A : Option Addr} {l : Bs} (h : Rd w rb A n c l p) (hT : TabsR rb w) :
    Calls Tryz.prog 177 #[.pointer (some ⟨rb, 0, none⟩)] w (RdOut rb A n c l w (idP l p) (fun v u _ => u = .agg #[.string (idV v).1, .string (idV v).2])) := by
  have hlt := h.lt
  have hb1 : Below w.heap.size w (w.alloc (.cells #[.string ⟨#[]⟩, .string ⟨#[]⟩] 108)) := (Below.refl _ w).alloc (Nat.le_refl _) _
  have HR := Lib.hid (h.below hb1)
  have HF := Lib.hid (Fr.of_below (own := [rb]) hb1)
  have HT := Lib.hid (hT.fr (Fr.of_below hb1))
  have HG0 := Lib.hid (heap_alloc_new w (.cells #[.string ⟨#[]⟩, .string ⟨#[]⟩] 108))
  have HS := Lib.hid hb1.size
  have hne : rb ≠ w.heap.size := by omega
  clear h hT hb1
  go_enter Tryz.func177, Tryz.ntmps177
  go_wp2_with fail
  generalize w.alloc (.cells #[.string ⟨#[]⟩, .string ⟨#[]⟩] 108) = W at *
  have hN := rText_any 256 256 rfl HR.out (by decide) HT.out
  rcases hX : textP l 256 p with ⟨q, k⟩ | ⟨b, q⟩
  · have HG := Lib.hid (show idP l p = .error (q, k) by unfold idP; rw [hX]; rfl)
    rw [hX] at hN
    refine hN.mono ?_
    rintro e w2 ⟨rfl, hr, hf⟩
    refine ⟨rfl, ?_⟩
    rw [HG.out]
    exact ⟨rfl, hr, HF.out.transJ hf⟩
  · rw [hX] at hN
    refine hN.mono ?_
    rintro e w2 ⟨⟨u, rfl, rfl⟩, hr, hf⟩
    have HR2 := Lib.hid hr; have HF2 := Lib.hid (HF.out.transJ hf); have HT2 := Lib.hid (HT.out.fr hf)
    have HG2 := Lib.hid ((hf.block _ (Array.getElem?_eq_some_iff.1 HG0.out).1 (by simp; omega)).trans HG0.out)
    clear hr hf hN
    go_wp2_with fail
    have hN := rText_any 256 256 rfl HR2.out (by decide) HT2.out
    rcases hY : textP l 256 q with ⟨q2, k⟩ | ⟨b2, q2⟩
    · have HG := Lib.hid (show idP l p = .error (q2, k) by unfold idP; rw [hX]; show (textP l 256 q).then _ = _; rw [hY]; rfl)
      rw [hY] at hN
      refine hN.mono ?_
      rintro e w3 ⟨rfl, hr, hf⟩
      refine ⟨rfl, ?_⟩
      rw [HG.out]
      exact ⟨rfl, hr, HF2.out.transJ hf⟩
    · have HG := Lib.hid (show idP l p = .ok ((b, b2), q2) by unfold idP; rw [hX]; show (textP l 256 q).then _ = _; rw [hY]; rfl)
      rw [hY] at hN
      refine hN.mono ?_
      rintro e w3 ⟨⟨u, rfl, rfl⟩, hr, hf⟩
      have hg3 := (hf.block _ (Array.getElem?_eq_some_iff.1 HG2.out).1 (by simp; omega)).trans HG2.out
      have z0 : w3.frozen? ⟨w.heap.size, 0, none⟩ = false := by simp [World.frozen?, hg3]
      have z1 : w3.frozen? ⟨w.heap.size, 1, none⟩ = false := by simp [World.frozen?, hg3]
      have y0 : w3.cell? ⟨w.heap.size, 0, none⟩ = some (.string ⟨#[]⟩) := by rw [cellH hg3]; rfl
      have y1 : w3.cell? ⟨w.heap.size, 1, none⟩ = some (.string ⟨#[]⟩) := by rw [cellH hg3]; rfl
      have hf4 : Fr [w.heap.size] w3 ((w3.setCell ⟨w.heap.size, 0, none⟩ (.string (toBA b))).setCell ⟨w.heap.size, 1, none⟩ (.string (toBA b2))) := (fr_setJ w3 _ 0 _).setJ (by simp) 1 _
      have HR4 := Lib.hid (hr.fr hf4 (by simp; omega))
      have HF4 := Lib.hid ((HF2.out.transJ hf).trans hf4 (by simp))
      have hv1 := heap_setJ (o := 0) hg3 (.string (toBA b))
      have hv2 := heap_setJ (o := 1) hv1 (.string (toBA b2))
      have HV := Lib.hid hv2
      clear hr hf hN hf4 hv1 hv2
      go_wp2_with fail
      generalize (w3.setCell ⟨w.heap.size, 0, none⟩ (.string (toBA b))).setCell ⟨w.heap.size, 1, none⟩ (.string (toBA b2)) = V at *
      have v0 : V.cell? ⟨w.heap.size, 0, none⟩ = some (.string (toBA b)) := by rw [cellH HV.out]; rfl
      have v1 : V.cell? ⟨w.heap.size, 1, none⟩ = some (.string (toBA b2)) := by rw [cellH HV.out]; rfl
      refine bodyPost_ret (v := .agg #[.string (toBA b), .string (toBA b2)]) (by simp [results, Tryz.results177, go_sem, v0, v1, Tryz.sizeOf108, Tryz.isAgg108]) rfl ?_
      rw [HG.out]
      exact ⟨⟨_, rfl, rfl⟩, HR4.out, HF4.out⟩
/-- an entry -/
def aclP (l : Bs) (p : Nat) : PR (Int × Bs × Bs) := (intP l p).then fun k a => (idP l a).then fun i b => .ok ((k, i), b)
def aclV (v : Int × Bs × Bs) : AclV := (v.1, idV v.2)
set_option maxRecDepth 100000 in
theorem getAcl_any {w : World} {rb n c p : Nat} {A : Option Addr} {l : Bs} (h : Rd w rb A n c l p) (hT : TabsR rb w) :
    Calls Tryz.prog 176 #[.pointer (some ⟨rb, 0, none⟩)] w (RdOut rb A n c l w (aclP l p) (fun v u _ => u = .agg #[.int .i32 (aclV v).1, .string (aclV v).2.1, .string (aclV v).2.2])) := by
  have hlt := h.lt
  have hb1 : Below w.heap.size w (w.alloc (.cells #[.int .i32 0, .string ⟨#[]⟩, .string ⟨#[]⟩] 110)) := (Below.refl _ w).alloc (Nat.le_refl _) _
  have HR := Lib.hid (h.below hb1)
  have HF := Lib.hid (Fr.of_below (own := [rb]) hb1)
  have HT := Lib.hid (hT.fr (Fr.of_below hb1))
  have HG0 := Lib.hid (heap_alloc_new w (.cells #[.int .i32 0, .string ⟨#[]⟩, .string ⟨#[]⟩] 110))
  have hne : rb ≠ w.heap.size := by omega
  clear h hT hb1
  go_enter Tryz.func176, Tryz.ntmps176
  go_wp2_with fail
  generalize w.alloc (.cells #[.int .i32 0, .string ⟨#[]⟩, .string ⟨#[]⟩] 110) = W at *
  have hN := rInt_any HR.out
  rcases hX : intP l p with ⟨q, k⟩ | ⟨z, q⟩
  · have HG := Lib.hid (show aclP l p = .error (q, k) by unfold aclP; rw [hX]; rfl)
    rw [hX] at hN
    refine hN.mono ?_
    rintro e w2 ⟨rfl, hr, hf⟩
    refine ⟨rfl, ?_⟩
    rw [HG.out]
    exact ⟨rfl, hr, HF.out.transJ hf⟩
  · rw [hX] at hN
    refine hN.mono ?_
    rintro e w2 ⟨⟨u, rfl, rfl⟩, hr, hf⟩
    have HR2 := Lib.hid hr; have HF2 := Lib.hid (HF.out.transJ hf); have HT2 := Lib.hid (HT.out.fr hf)
    have HG2 := Lib.hid ((hf.block _ (Array.getElem?_eq_some_iff.1 HG0.out).1 (by simp; omega)).trans HG0.out)
    clear hr hf hN
    go_wp2_with fail
    have hN := getId_any HR2.out HT2.out
    rcases hY : idP l q with ⟨q2, k⟩ | ⟨b2, q2⟩
    · have HG := Lib.hid (show aclP l p = .error (q2, k) by unfold aclP; rw [hX]; show (idP l q).then _ = _; rw [hY]; rfl)
      rw [hY] at hN
      refine hN.mono ?_
      rintro e w3 ⟨rfl, hr, hf⟩
      refine ⟨rfl, ?_⟩
      rw [HG.out]
      exact ⟨rfl, hr, HF2.out.transJ hf⟩
    · have HG := Lib.hid (show aclP l p = .ok ((z, b2), q2) by unfold aclP; rw [hX]; show (idP l q).then _ = _; rw [hY]; rfl)
      rw [hY] at hN
      refine hN.mono ?_
      rintro e w3 ⟨⟨u, rfl, rfl⟩, hr, hf⟩
      obtain ⟨i1, i2⟩ : ∃ i1 i2 : ByteArray, idV b2 = (i1, i2) := ⟨_, _, rfl⟩
      obtain ⟨i2, hi⟩ := i2
      rw [hi]
      have HI := Lib.hid hi
      have hg3 := (hf.block _ (Array.getElem?_eq_some_iff.1 HG2.out).1 (by simp; omega)).trans HG2.out
      have z0 : w3.frozen? ⟨w.heap.size, 0, none⟩ = false := by simp [World.frozen?, hg3]
      have z1 : w3.frozen? ⟨w.heap.size, 1, none⟩ = false := by simp [World.frozen?, hg3]
      have z2 : w3.frozen? ⟨w.heap.size, 2, none⟩ = false := by simp [World.frozen?, hg3]
      have y0 : w3.cell? ⟨w.heap.size, 0, none⟩ = some (.int .i32 0) := by rw [cellH hg3]; rfl
      have y1 : w3.cell? ⟨w.heap.size, 1, none⟩ = some (.string ⟨#[]⟩) := by rw [cellH hg3]; rfl
      have y2 : w3.cell? ⟨w.heap.size, 2, none⟩ = some (.string ⟨#[]⟩) := by rw [cellH hg3]; rfl
      have hf4 : Fr [w.heap.size] w3 (((w3.setCell ⟨w.heap.size, 0, none⟩ (.int .i32 z)).setCell ⟨w.heap.size, 1, none⟩ (.string i1)).setCell ⟨w.heap.size, 2, none⟩ (.string i2)) := ((fr_setJ w3 _ 0 _).setJ (by simp) 1 _).setJ (by simp) 2 _
      have HR4 := Lib.hid (hr.fr hf4 (by simp; omega))
      have HF4 := Lib.hid ((HF2.out.transJ hf).trans hf4 (by simp))
      have hv1 := heap_setJ (o := 0) hg3 (.int .i32 z)
      have hv2 := heap_setJ (o := 1) hv1 (.string i1)
      have hv3 := heap_setJ (o := 2) hv2 (.string i2)
      have HV := Lib.hid hv3
      clear hr hf hN hf4 hv1 hv2 hv3 hi
      dsimp only
      go_wp2_with fail
      generalize ((w3.setCell ⟨w.heap.size, 0, none⟩ (.int .i32 z)).setCell ⟨w.heap.size, 1, none⟩ (.string i1)).setCell ⟨w.heap.size, 2, none⟩ (.string i2) = V at *
      have v0 : V.cell? ⟨w.heap.size, 0, none⟩ = some (.int .i32 z) := by rw [cellH HV.out]; rfl
      have v1 : V.cell? ⟨w.heap.size, 1, none⟩ = some (.string i1) := by rw [cellH HV.out]; rfl
      have v2 : V.cell? ⟨w.heap.size, 2, none⟩ = some (.string i2) := by rw [cellH HV.out]; rfl
      refine bodyPost_ret (v := .agg #[.int .i32 z, .string i1, .string i2]) (by simp [results, Tryz.results176, go_sem, v0, v1, v2, Tryz.sizeOf110, Tryz.isAgg110]) rfl ?_
      rw [HG.out]
      exact ⟨⟨_, rfl, by show Value.agg #[.int .i32 z, .string i1, .string i2] = .agg #[.int .i32 z, .string (idV b2).1, .string (idV b2).2]; rw [HI.out]⟩, HR4.out, HF4.out⟩
/-- a list, some of it read -/
def JRId (rb : Nat) (A : Option Addr) (n c : Nat) (l : Bs) (w : World) (N : Nat) (tot : PR (List (Bs × Bs))) (v i : Value) (wr : World) : Prop :=
  ∃ (xs : List (Bs × Bs)) (B : Option Addr) (d q : Nat), v = .slice B xs.length d ∧ i = .int .i64 (xs.length : Int) ∧ xs.length ≤ N ∧ (repP (idP l) (N - xs.length) q).ahead xs = tot ∧ Rd wr rb A n c l q ∧ Fr [rb] w wr ∧ wr.ownsRow w.heap.size 108 2 (.slice B xs.length d) xs.length ((xs.map idV).flatMap encId)
/-- what a list's reading hands back -/
def LsOutId (base : Nat) (xs : List (Bs × Bs)) (u : Value) (w' : World) : Prop := ∃ B d, u = .slice B xs.length d ∧ w'.ownsRow base 108 2 (.slice B xs.length d) xs.length ((xs.map idV).flatMap encId)
theorem elemIdJ : Elem encId 26 108 2 32 (.agg #[.string ⟨#[]⟩, .string ⟨#[]⟩]) where
  under := Tryz.underlying26
  info := by kernel_rfl
  size := rfl
  len := fun _ => rfl
  pos := by decide
  one := fun x u hu => by
    simp [encId] at hu
    rcases hu with rfl | rfl <;> rfl
  small := by decide
set_option maxRecDepth 100000 in
theorem getIds_any {w : World} {rb n c p : Nat} {A : Option Addr} {l : Bs} (h : Rd w rb A n c l p) (hT : TabsR rb w) :
    Calls Tryz.prog 179 #[.pointer (some ⟨rb, 0, none⟩), .int .i64 16, .int .i64 8, .func (.func 177) #[] #[]] w (RdOut rb A n c l w (listP l 16 8 (idP l) p) (fun v u w' => LsOutId w.heap.size v u w')) := by
  have hlt := h.lt
  have hb1 : Below w.heap.size w (w.alloc (.cells #[] 108)) := (Below.refl _ w).alloc (Nat.le_refl _) _
  have HR := Lib.hid (h.below hb1)
  have HF := Lib.hid (Fr.of_below (own := [rb]) hb1)
  have HT := Lib.hid hT
  have HO := Lib.hid (own_empty (T := 108) (k := 2) w)
  have hq : ∀ w : World, (binOp .neq 192 (.func (.func 177) #[] #[]) .nilFunc).run Tryz.prog w = .ok (.bool true) w := fun w => by kernel_rfl
  have hEn : ∀ (args : Array Value) (w : World), (callFunc 177 args).run Tryz.prog w = .ok (.enter 177 args) w := enters_of Tryz.func177 (by kernel_rfl) rfl
  have hmk : ∀ w : World, (Instr.makeSlice 26 (.int .i64 0) (.int .i64 0)).run Tryz.prog w = .ok (.slice (some ⟨w.heap.size, 0, none⟩) 0 0) (w.alloc (.cells #[] 108)) := fun w => by
    obtain ⟨i, hi, hz, hsz, hb⟩ := info_partsI elemIdJ.info
    have := run_make (P := Tryz.prog) w 26 108 i _ elemIdJ.under hi hz .i64 .i64 0 0 (Int.le_refl _) (Int.le_refl _) (by omega) (by omega)
    simpa [madeCells, Array.range_zero'] using this
  clear h hT hb1
  go_enter Tryz.func179, Tryz.ntmps179
  go_wp2_with fail
  generalize w.alloc (.cells #[] 108) = W at *
  have hN := rCount_any 16 16 rfl 8 8 rfl (by decide) (by decide) HR.out
  rcases hX : countP l 16 8 p with ⟨q, k⟩ | ⟨N, q⟩
  · have HG := Lib.hid (show listP l 16 8 (idP l) p = .error (q, k) by unfold listP; rw [hX]; rfl)
    rw [hX] at hN
    refine hN.mono ?_
    rintro e w2 ⟨rfl, hr, hf⟩
    refine ⟨rfl, ?_⟩
    rw [HG.out]
    exact ⟨rfl, hr, HF.out.transJ hf⟩
  · obtain ⟨rfl, hN16⟩ := countP_ok hX
    have HG := Lib.hid (show listP l 16 8 (idP l) p = repP (idP l) N (p + 4) by unfold listP; rw [hX]; rfl)
    rw [hX] at hN
    refine hN.mono ?_
    rintro e w2 ⟨⟨u, rfl, rfl⟩, hr, hf⟩
    have HR2 := Lib.hid hr; have HF2 := Lib.hid (HF.out.transJ hf)
    have HO2 := Lib.hid (own_fr HO.out hf (by simp; omega))
    clear hr hf hN hX
    go_wp2_with fail
    go_loopw [9, 16] (fun v i wr => JRId rb A n c l w N (listP l 16 8 (idP l) p) v i wr) (fun _ i _ => N - (RowKit.intOf i).toNat)
    case atStart => exact ⟨[], _, 0, p + 4, rfl, rfl, Nat.zero_le _, by rw [ahead_nil, HG.out]; rfl, HR2.out, HF2.out, HO2.out⟩
    case round =>
      obtain ⟨xs, B, d, q, rfl, rfl, hxn, htot, hrd, hfr, hrow⟩ := hrel
      have HT3 := Lib.hid (HT.out.fr hfr)
      have HTOT := Lib.hid htot; have HRD := Lib.hid hrd; have HFR := Lib.hid hfr; have HROW := Lib.hid hrow
      clear htot hrd hfr hrow
      by_cases hk : xs.length < N
      · have hk2 : (xs.length : Int) < (N : Int) := by omega
        have hb1 : Below wr.heap.size wr (wr.alloc (.cells #[.string ⟨#[]⟩, .string ⟨#[]⟩] 108)) := (Below.refl _ wr).alloc (Nat.le_refl _) _
        have HR4 := Lib.hid (HRD.out.below hb1)
        have HF4 := Lib.hid (Fr.of_below (own := [rb]) hb1)
        have HT4 := Lib.hid (HT3.out.fr (Fr.of_below hb1))
        have HG4 := Lib.hid (heap_alloc_new wr (.cells #[.string ⟨#[]⟩, .string ⟨#[]⟩] 108))
        have hws := HFR.out.size
        clear hb1
        go_wp2_with fail
        generalize wr.alloc (.cells #[.string ⟨#[]⟩, .string ⟨#[]⟩] 108) = W4 at *
        have hN := getId_any HR4.out HT4.out
        rcases hY : idP l q with e0 | ⟨x, q5⟩
        · obtain ⟨q5, k5⟩ := e0
          have HE := Lib.hid (show listP l 16 8 (idP l) p = .error (q5, k5) by
            have h1 := HTOT.out
            rw [show N - xs.length = (N - xs.length - 1) + 1 by omega, repP_fail xs hY] at h1
            exact h1.symm)
          rw [hY] at hN
          with_reducible refine hN.mono ?_
          rintro e w5 ⟨rfl, hr, hf⟩
          refine ⟨rfl, ?_⟩
          rw [HE.out]
          exact ⟨rfl, hr, HFR.out.transJ (HF4.out.transJ hf)⟩
        · have HE := Lib.hid (show (repP (idP l) (N - (xs.length + 1)) q5).ahead (xs ++ [x]) = listP l 16 8 (idP l) p by
            have h1 := HTOT.out
            rw [show N - xs.length = (N - (xs.length + 1)) + 1 by omega, repP_step xs hY] at h1
            exact h1)
          rw [hY] at hN
          with_reducible refine hN.mono ?_
          rintro e w5 ⟨⟨u, rfl, rfl⟩, hr, hf⟩
          obtain ⟨V, HVV⟩ : ∃ V, Hid (idV x = V) := ⟨_, Lib.hid rfl⟩
          rw [HVV.out]
          obtain ⟨i1, i2⟩ := V
          dsimp only
          have hg5 := (hf.block _ (Array.getElem?_eq_some_iff.1 HG4.out).1 (by simp; omega)).trans HG4.out
          have z0 : w5.frozen? ⟨wr.heap.size, 0, none⟩ = false := by simp [World.frozen?, hg5]
          have y0 : w5.cell? ⟨wr.heap.size, 0, none⟩ = some (.string ⟨#[]⟩) := by rw [cellH hg5]; rfl
          have z1 : w5.frozen? ⟨wr.heap.size, 1, none⟩ = false := by simp [World.frozen?, hg5]
          have y1 : w5.cell? ⟨wr.heap.size, 1, none⟩ = some (.string ⟨#[]⟩) := by rw [cellH hg5]; rfl
          have hv0 := heap_setJ (o := 0) hg5 (.string i1)
          have hv1 := heap_setJ (o := 1) hv0 (.string i2)
          have hfw : Fr [wr.heap.size] w5 ((w5.setCell ⟨wr.heap.size, 0, none⟩ (.string i1)).setCell ⟨wr.heap.size, 1, none⟩ (.string i2)) := ((fr_setJ w5 _ 0 _).setJ (by simp) 1 _)
          have hsz : ((w5.setCell ⟨wr.heap.size, 0, none⟩ (.string i1)).setCell ⟨wr.heap.size, 1, none⟩ (.string i2)).heap.size = w5.heap.size := by simp [World.setCell]
          have hal : Below ((w5.setCell ⟨wr.heap.size, 0, none⟩ (.string i1)).setCell ⟨wr.heap.size, 1, none⟩ (.string i2)).heap.size ((w5.setCell ⟨wr.heap.size, 0, none⟩ (.string i1)).setCell ⟨wr.heap.size, 1, none⟩ (.string i2)) (((w5.setCell ⟨wr.heap.size, 0, none⟩ (.string i1)).setCell ⟨wr.heap.size, 1, none⟩ (.string i2)).alloc (.cells #[.string i1, .string i2] 108)) := (Below.refl _ _).alloc (Nat.le_refl _) _
          have hf7 := (((HF4.out.transJ hf).trans hfw (by simp)).trans (Fr.of_below (own := []) hal) (by simp))
          have hr7 := (hr.fr hfw (by have := HRD.out.lt; simp; omega)).below hal
          have HR7 := Lib.hid hr7
          have HF7 := Lib.hid hf7
          have HO7 := Lib.hid (own_fr HROW.out hf7 (by simp; omega))
          have HS7 := Lib.hid (show Sl (((w5.setCell ⟨wr.heap.size, 0, none⟩ (.string i1)).setCell ⟨wr.heap.size, 1, none⟩ (.string i2)).alloc (.cells #[.string i1, .string i2] 108)) (((w5.setCell ⟨wr.heap.size, 0, none⟩ (.string i1)).setCell ⟨wr.heap.size, 1, none⟩ (.string i2)).alloc (.cells #[.string i1, .string i2] 108)).heap.size encId 2 (some ⟨w5.heap.size, 0, none⟩) 1 [((i1, i2) : IdV)] from by
            have h9 := heap_alloc_new ((w5.setCell ⟨wr.heap.size, 0, none⟩ (.string i1)).setCell ⟨wr.heap.size, 1, none⟩ (.string i2)) (.cells #[.string i1, .string i2] 108)
            rw [hsz] at h9
            refine ⟨rfl, fun _ => ⟨w5.heap.size, 0, rfl, (Array.getElem?_eq_some_iff.1 h9).1, fun j hj a u hu => ?_⟩⟩
            have hj0 : j = 0 := by omega
            subst hj0
            rw [cellH h9]
            match a, hu with
            | 0, hu => exact hu
            | 1, hu => exact hu)
          clear hr hf hN hal hf7 hr7 hsz hfw hv0 hv1
          go_wp2_with (at_builtin; refine wpList_appG elemIdJ rfl _ _ rfl w.heap.size B xs.length d (xs.map idV) ?hxId HO7.out (some ⟨w5.heap.size, 0, none⟩) 1 1 [((i1, i2) : IdV)] ?hyId HS7.out (fun e => by cases e) (by omega) (Nat.le_trans HFR.out.size HF7.out.size) ?hkId)
          (try case hxId => rfl)
          (try case hyId => rfl)
          case hkId =>
            intro A8 c8 w8 hv8 hb8
            have HB8 := Lib.hid hb8
            have HV8 := Lib.hid (show w8.ownsRow w.heap.size 108 2 (.slice A8 (xs ++ [x]).length c8) (xs ++ [x]).length (((xs ++ [x]).map idV).flatMap encId) by
              rw [List.length_append, List.length_singleton, List.map_append, List.map_singleton, HVV.out, List.flatMap_append]; simpa using hv8)
            clear hv8 hb8
            go_wp2_with fail
            go_roundw
            case rel => exact ⟨xs ++ [x], A8, c8, q5, by simp, by simp, by simp; omega, by rw [List.length_append]; exact HE.out, HR7.out.belowB HB8.out hlt, (HFR.out.transJ HF7.out).belowJ HB8.out, HV8.out⟩
            case measure => simp [RowKit.intOf]; omega

      · have hk2 : ¬ (xs.length : Int) < (N : Int) := by omega
        have HE := Lib.hid (show listP l 16 8 (idP l) p = .ok (xs, q) by
          have h1 := HTOT.out
          rw [show N - xs.length = 0 by omega] at h1
          rw [← h1]
          simp [repP, PR.ahead, PR.then])
        go_wp2_with fail
        go_ret
        rw [HE.out]
        exact ⟨⟨_, rfl, B, d, rfl, HROW.out⟩, HRD.out, HFR.out⟩
/-- a list, some of it read -/
def JRAcl (rb : Nat) (A : Option Addr) (n c : Nat) (l : Bs) (w : World) (N : Nat) (tot : PR (List (Int × Bs × Bs))) (v i : Value) (wr : World) : Prop :=
  ∃ (xs : List (Int × Bs × Bs)) (B : Option Addr) (d q : Nat), v = .slice B xs.length d ∧ i = .int .i64 (xs.length : Int) ∧ xs.length ≤ N ∧ (repP (aclP l) (N - xs.length) q).ahead xs = tot ∧ Rd wr rb A n c l q ∧ Fr [rb] w wr ∧ wr.ownsRow w.heap.size 110 3 (.slice B xs.length d) xs.length ((xs.map aclV).flatMap encAcl)
/-- what a list's reading hands back -/
def LsOutAcl (base : Nat) (xs : List (Int × Bs × Bs)) (u : Value) (w' : World) : Prop := ∃ B d, u = .slice B xs.length d ∧ w'.ownsRow base 110 3 (.slice B xs.length d) xs.length ((xs.map aclV).flatMap encAcl)
theorem elemAclJ : Elem encAcl 23 110 3 40 (.agg #[.int .i32 0, .string ⟨#[]⟩, .string ⟨#[]⟩]) where
  under := Tryz.underlying23
  info := by kernel_rfl
  size := rfl
  len := fun _ => rfl
  pos := by decide
  one := fun x u hu => by
    simp [encAcl] at hu
    rcases hu with rfl | rfl | rfl <;> rfl
  small := by decide
set_option maxRecDepth 100000 in
theorem getAcls_any {w : World} {rb n c p : Nat} {A : Option Addr} {l : Bs} (h : Rd w rb A n c l p) (hT : TabsR rb w) :
    Calls Tryz.prog 175 #[.pointer (some ⟨rb, 0, none⟩), .int .i64 16, .int .i64 12, .func (.func 176) #[] #[]] w (RdOut rb A n c l w (listP l 16 12 (aclP l) p) (fun v u w' => LsOutAcl w.heap.size v u w')) := by
  have hlt := h.lt
  have hb1 : Below w.heap.size w (w.alloc (.cells #[] 110)) := (Below.refl _ w).alloc (Nat.le_refl _) _
  have HR := Lib.hid (h.below hb1)
  have HF := Lib.hid (Fr.of_below (own := [rb]) hb1)
  have HT := Lib.hid hT
  have HO := Lib.hid (own_empty (T := 110) (k := 3) w)
  have hq : ∀ w : World, (binOp .neq 193 (.func (.func 176) #[] #[]) .nilFunc).run Tryz.prog w = .ok (.bool true) w := fun w => by kernel_rfl
  have hEn : ∀ (args : Array Value) (w : World), (callFunc 176 args).run Tryz.prog w = .ok (.enter 176 args) w := enters_of Tryz.func176 (by kernel_rfl) rfl
  have hmk : ∀ w : World, (Instr.makeSlice 23 (.int .i64 0) (.int .i64 0)).run Tryz.prog w = .ok (.slice (some ⟨w.heap.size, 0, none⟩) 0 0) (w.alloc (.cells #[] 110)) := fun w => by
    obtain ⟨i, hi, hz, hsz, hb⟩ := info_partsI elemAclJ.info
    have := run_make (P := Tryz.prog) w 23 110 i _ elemAclJ.under hi hz .i64 .i64 0 0 (Int.le_refl _) (Int.le_refl _) (by omega) (by omega)
    simpa [madeCells, Array.range_zero'] using this
  clear h hT hb1
  go_enter Tryz.func175, Tryz.ntmps175
  go_wp2_with fail
  generalize w.alloc (.cells #[] 110) = W at *
  have hN := rCount_any 16 16 rfl 12 12 rfl (by decide) (by decide) HR.out
  rcases hX : countP l 16 12 p with ⟨q, k⟩ | ⟨N, q⟩
  · have HG := Lib.hid (show listP l 16 12 (aclP l) p = .error (q, k) by unfold listP; rw [hX]; rfl)
    rw [hX] at hN
    refine hN.mono ?_
    rintro e w2 ⟨rfl, hr, hf⟩
    refine ⟨rfl, ?_⟩
    rw [HG.out]
    exact ⟨rfl, hr, HF.out.transJ hf⟩
  · obtain ⟨rfl, hN16⟩ := countP_ok hX
    have HG := Lib.hid (show listP l 16 12 (aclP l) p = repP (aclP l) N (p + 4) by unfold listP; rw [hX]; rfl)
    rw [hX] at hN
    refine hN.mono ?_
    rintro e w2 ⟨⟨u, rfl, rfl⟩, hr, hf⟩
    have HR2 := Lib.hid hr; have HF2 := Lib.hid (HF.out.transJ hf)
    have HO2 := Lib.hid (own_fr HO.out hf (by simp; omega))
    clear hr hf hN hX
    go_wp2_with fail
    go_loopw [9, 16] (fun v i wr => JRAcl rb A n c l w N (listP l 16 12 (aclP l) p) v i wr) (fun _ i _ => N - (RowKit.intOf i).toNat)
    case atStart => exact ⟨[], _, 0, p + 4, rfl, rfl, Nat.zero_le _, by rw [ahead_nil, HG.out]; rfl, HR2.out, HF2.out, HO2.out⟩
    case round =>
      obtain ⟨xs, B, d, q, rfl, rfl, hxn, htot, hrd, hfr, hrow⟩ := hrel
      have HT3 := Lib.hid (HT.out.fr hfr)
      have HTOT := Lib.hid htot; have HRD := Lib.hid hrd; have HFR := Lib.hid hfr; have HROW := Lib.hid hrow
      clear htot hrd hfr hrow
      by_cases hk : xs.length < N
      · have hk2 : (xs.length : Int) < (N : Int) := by omega
        have hb1 : Below wr.heap.size wr (wr.alloc (.cells #[.int .i32 0, .string ⟨#[]⟩, .string ⟨#[]⟩] 110)) := (Below.refl _ wr).alloc (Nat.le_refl _) _
        have HR4 := Lib.hid (HRD.out.below hb1)
        have HF4 := Lib.hid (Fr.of_below (own := [rb]) hb1)
        have HT4 := Lib.hid (HT3.out.fr (Fr.of_below hb1))
        have HG4 := Lib.hid (heap_alloc_new wr (.cells #[.int .i32 0, .string ⟨#[]⟩, .string ⟨#[]⟩] 110))
        have hws := HFR.out.size
        clear hb1
        go_wp2_with fail
        generalize wr.alloc (.cells #[.int .i32 0, .string ⟨#[]⟩, .string ⟨#[]⟩] 110) = W4 at *
        have hN := getAcl_any HR4.out HT4.out
        rcases hY : aclP l q with e0 | ⟨x, q5⟩
        · obtain ⟨q5, k5⟩ := e0
          have HE := Lib.hid (show listP l 16 12 (aclP l) p = .error (q5, k5) by
            have h1 := HTOT.out
            rw [show N - xs.length = (N - xs.length - 1) + 1 by omega, repP_fail xs hY] at h1
            exact h1.symm)
          rw [hY] at hN
          with_reducible refine hN.mono ?_
          rintro e w5 ⟨rfl, hr, hf⟩
          refine ⟨rfl, ?_⟩
          rw [HE.out]
          exact ⟨rfl, hr, HFR.out.transJ (HF4.out.transJ hf)⟩
        · have HE := Lib.hid (show (repP (aclP l) (N - (xs.length + 1)) q5).ahead (xs ++ [x]) = listP l 16 12 (aclP l) p by
            have h1 := HTOT.out
            rw [show N - xs.length = (N - (xs.length + 1)) + 1 by omega, repP_step xs hY] at h1
            exact h1)
          rw [hY] at hN
          with_reducible refine hN.mono ?_
          rintro e w5 ⟨⟨u, rfl, rfl⟩, hr, hf⟩
          obtain ⟨V, HVV⟩ : ∃ V, Hid (aclV x = V) := ⟨_, Lib.hid rfl⟩
          rw [HVV.out]
          obtain ⟨k1, i1, i2⟩ := V
          dsimp only
          have hg5 := (hf.block _ (Array.getElem?_eq_some_iff.1 HG4.out).1 (by simp; omega)).trans HG4.out
          have z0 : w5.frozen? ⟨wr.heap.size, 0, none⟩ = false := by simp [World.frozen?, hg5]
          have y0 : w5.cell? ⟨wr.heap.size, 0, none⟩ = some (.int .i32 0) := by rw [cellH hg5]; rfl
          have z1 : w5.frozen? ⟨wr.heap.size, 1, none⟩ = false := by simp [World.frozen?, hg5]
          have y1 : w5.cell? ⟨wr.heap.size, 1, none⟩ = some (.string ⟨#[]⟩) := by rw [cellH hg5]; rfl
          have z2 : w5.frozen? ⟨wr.heap.size, 2, none⟩ = false := by simp [World.frozen?, hg5]
          have y2 : w5.cell? ⟨wr.heap.size, 2, none⟩ = some (.string ⟨#[]⟩) := by rw [cellH hg5]; rfl
          have hv0 := heap_setJ (o := 0) hg5 (.int .i32 k1)
          have hv1 := heap_setJ (o := 1) hv0 (.string i1)
          have hv2 := heap_setJ (o := 2) hv1 (.string i2)
          have hfw : Fr [wr.heap.size] w5 (((w5.setCell ⟨wr.heap.size, 0, none⟩ (.int .i32 k1)).setCell ⟨wr.heap.size, 1, none⟩ (.string i1)).setCell ⟨wr.heap.size, 2, none⟩ (.string i2)) := (((fr_setJ w5 _ 0 _).setJ (by simp) 1 _).setJ (by simp) 2 _)
          have hsz : (((w5.setCell ⟨wr.heap.size, 0, none⟩ (.int .i32 k1)).setCell ⟨wr.heap.size, 1, none⟩ (.string i1)).setCell ⟨wr.heap.size, 2, none⟩ (.string i2)).heap.size = w5.heap.size := by simp [World.setCell]
          have hal : Below (((w5.setCell ⟨wr.heap.size, 0, none⟩ (.int .i32 k1)).setCell ⟨wr.heap.size, 1, none⟩ (.string i1)).setCell ⟨wr.heap.size, 2, none⟩ (.string i2)).heap.size (((w5.setCell ⟨wr.heap.size, 0, none⟩ (.int .i32 k1)).setCell ⟨wr.heap.size, 1, none⟩ (.string i1)).setCell ⟨wr.heap.size, 2, none⟩ (.string i2)) ((((w5.setCell ⟨wr.heap.size, 0, none⟩ (.int .i32 k1)).setCell ⟨wr.heap.size, 1, none⟩ (.string i1)).setCell ⟨wr.heap.size, 2, none⟩ (.string i2)).alloc (.cells #[.int .i32 k1, .string i1, .string i2] 110)) := (Below.refl _ _).alloc (Nat.le_refl _) _
          have hf7 := (((HF4.out.transJ hf).trans hfw (by simp)).trans (Fr.of_below (own := []) hal) (by simp))
          have hr7 := (hr.fr hfw (by have := HRD.out.lt; simp; omega)).below hal
          have HR7 := Lib.hid hr7
          have HF7 := Lib.hid hf7
          have HO7 := Lib.hid (own_fr HROW.out hf7 (by simp; omega))
          have HS7 := Lib.hid (show Sl ((((w5.setCell ⟨wr.heap.size, 0, none⟩ (.int .i32 k1)).setCell ⟨wr.heap.size, 1, none⟩ (.string i1)).setCell ⟨wr.heap.size, 2, none⟩ (.string i2)).alloc (.cells #[.int .i32 k1, .string i1, .string i2] 110)) ((((w5.setCell ⟨wr.heap.size, 0, none⟩ (.int .i32 k1)).setCell ⟨wr.heap.size, 1, none⟩ (.string i1)).setCell ⟨wr.heap.size, 2, none⟩ (.string i2)).alloc (.cells #[.int .i32 k1, .string i1, .string i2] 110)).heap.size encAcl 3 (some ⟨w5.heap.size, 0, none⟩) 1 [((k1, i1, i2) : AclV)] from by
            have h9 := heap_alloc_new (((w5.setCell ⟨wr.heap.size, 0, none⟩ (.int .i32 k1)).setCell ⟨wr.heap.size, 1, none⟩ (.string i1)).setCell ⟨wr.heap.size, 2, none⟩ (.string i2)) (.cells #[.int .i32 k1, .string i1, .string i2] 110)
            rw [hsz] at h9
            refine ⟨rfl, fun _ => ⟨w5.heap.size, 0, rfl, (Array.getElem?_eq_some_iff.1 h9).1, fun j hj a u hu => ?_⟩⟩
            have hj0 : j = 0 := by omega
            subst hj0
            rw [cellH h9]
            match a, hu with
            | 0, hu => exact hu
            | 1, hu => exact hu
            | 2, hu => exact hu)
          clear hr hf hN hal hf7 hr7 hsz hfw hv0 hv1 hv2
          go_wp2_with (at_builtin; refine wpList_appG elemAclJ rfl _ _ rfl w.heap.size B xs.length d (xs.map aclV) ?hxAcl HO7.out (some ⟨w5.heap.size, 0, none⟩) 1 1 [((k1, i1, i2) : AclV)] ?hyAcl HS7.out (fun e => by cases e) (by omega) (Nat.le_trans HFR.out.size HF7.out.size) ?hkAcl)
          (try case hxAcl => rfl)
          (try case hyAcl => rfl)
          case hkAcl =>
            intro A8 c8 w8 hv8 hb8
            have HB8 := Lib.hid hb8
            have HV8 := Lib.hid (show w8.ownsRow w.heap.size 110 3 (.slice A8 (xs ++ [x]).length c8) (xs ++ [x]).length (((xs ++ [x]).map aclV).flatMap encAcl) by
              rw [List.length_append, List.length_singleton, List.map_append, List.map_singleton, HVV.out, List.flatMap_append]; simpa using hv8)
            clear hv8 hb8
            go_wp2_with fail
            go_roundw
            case rel => exact ⟨xs ++ [x], A8, c8, q5, by simp, by simp, by simp; omega, by rw [List.length_append]; exact HE.out, HR7.out.belowB HB8.out hlt, (HFR.out.transJ HF7.out).belowJ HB8.out, HV8.out⟩
            case measure => simp [RowKit.intOf]; omega

      · have hk2 : ¬ (xs.length : Int) < (N : Int) := by omega
        have HE := Lib.hid (show listP l 16 12 (aclP l) p = .ok (xs, q) by
          have h1 := HTOT.out
          rw [show N - xs.length = 0 by omega] at h1
          rw [← h1]
          simp [repP, PR.ahead, PR.then])
        go_wp2_with fail
        go_ret
        rw [HE.out]
        exact ⟨⟨_, rfl, B, d, rfl, HROW.out⟩, HRD.out, HFR.out⟩
end Go.Proofs.YthpjneobmmpbnaaGreatDoor

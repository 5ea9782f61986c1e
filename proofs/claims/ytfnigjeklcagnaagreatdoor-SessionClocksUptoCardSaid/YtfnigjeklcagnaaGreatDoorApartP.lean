/- Two clocks side by side, in memory and on paper: what a call on one leaves of the other. No condition. -/
import Derived.Test.YtfnigjeklcagnaaGreatDoorBeat
namespace Go.Proofs.YtfnigjeklcagnaaGreatDoor
open Go.RowKit Go.MapKept Go.Maps
theorem put_len (K : List KV) (i s : Int) : (putK K i s).length ≤ K.length + 1 := by
  unfold putK
  split
  · split
    · omega
    · rw [List.length_append]
      have := List.length_filter_le (fun x : KV => decide (x.1 ≠ i)) K
      unfold dropK
      simpa using this
  · simp
theorem touch_len (K : List KV) (tick i to now : Int) : (touchK K tick i to now).length ≤ K.length + 1 := by
  unfold touchK
  split
  · exact put_len ..
  · omega
theorem drop_len (K : List KV) (i : Int) : (dropK K i).length ≤ K.length := List.length_filter_le ..
theorem late_len (K : List KV) (n : Int) : (lateK K n).length ≤ K.length := List.length_filter_le ..
theorem touch_other {K : List KV} {tick id to now i : Int} (h : id ≠ i) : getK (touchK K tick id to now) i = getK K i := by
  unfold touchK
  split
  · rw [getK_put, if_neg (fun e => h e.symm)]
  · rfl
theorem touch_same {K K' : List KV} {tick to now i : Int} (h : getK K i = getK K' i) : getK (touchK K tick i to now) i = getK (touchK K' tick i to now) i := by
  unfold touchK
  split
  · rw [getK_put, getK_put, if_pos rfl, if_pos rfl, h]
  · exact h
theorem drop_other {K : List KV} {id i : Int} (h : id ≠ i) : getK (dropK K id) i = getK K i := by rw [getK_drop, if_neg (fun e => h e.symm)]
theorem drop_same {K K' : List KV} {i : Int} : getK (dropK K i) i = getK (dropK K' i) i := by rw [getK_drop, getK_drop, if_pos rfl, if_pos rfl]
theorem late_same {K K' : List KV} {i n : Int} (h1 : OneK K) (h2 : OneK K') (h : getK K i = getK K' i) : getK (lateK K n) i = getK (lateK K' n) i := by rw [getK_late h1, getK_late h2, h]
theorem over_same {K K' : List KV} {i n : Int} (h1 : OneK K) (h2 : OneK K') (h : getK K i = getK K' i) : i ∈ overK K n ↔ i ∈ overK K' n := by rw [mem_over h1, mem_over h2, h]
structure Thr (tick : Int) (bc bd : Nat) (w wr : World) (K K' : List KV) (own own' : List Nat) (B : Nat) (z : BeatV) : Prop where
  c : Clk wr tick K bc own
  d : Clk wr tick K' bd own'
  apart : ∀ g ∈ own, g ∉ own'
  o1 : ∀ g ∈ own, w.heap.size ≤ g
  o2 : ∀ g ∈ own', w.heap.size ≤ g
  below : Below w.heap.size w wr
  cell : wr.heap[B]? = some (.cells #[.int .i64 z.1, .int .i64 z.2.1, .int .i32 z.2.2.1, .int .i64 z.2.2.2] 29 (0, 0))
  n1 : B ∉ own
  n2 : B ∉ own'
section
variable {tick : Int} {bc bd : Nat} {w wr w' : World} {K K' : List KV} {own own' : List Nat} {B : Nat} {z : BeatV}
theorem Thr.lt (h : Thr tick bc bd w wr K K' own own' B z) : B < wr.heap.size := (Array.getElem?_eq_some_iff.1 h.cell).1
theorem Thr.first (h : Thr tick bc bd w wr K K' own own' B z) {K2 : List KV} {own2 : List Nat} (hC : Clk w' tick K2 bc own2) (hs : ∀ g ∈ own2, g ∈ own ∨ wr.heap.size ≤ g) (hf : Fr own wr w') : Thr tick bc bd w w' K2 K' own2 own' B z where
  c := hC
  d := h.d.fr hf fun g hg hm => h.apart g hm hg
  apart := fun g hg hm => (hs g hg).elim (fun h2 => h.apart g h2 hm) (fun h2 => by have := h.d.lt g hm; omega)
  o1 := fun g hg => (hs g hg).elim (h.o1 g) (fun h2 => Nat.le_trans h.below.size h2)
  o2 := h.o2
  below := h.below.trans (hf.below h.below.size h.o1)
  cell := (hf.block B h.lt h.n1).trans h.cell
  n1 := fun hm => (hs B hm).elim h.n1 (fun h2 => by have := h.lt; omega)
  n2 := h.n2
theorem Thr.second (h : Thr tick bc bd w wr K K' own own' B z) {K2 : List KV} {own2 : List Nat} (hC : Clk w' tick K2 bd own2) (hs : ∀ g ∈ own2, g ∈ own' ∨ wr.heap.size ≤ g) (hf : Fr own' wr w') : Thr tick bc bd w w' K K2 own own2 B z where
  c := h.c.fr hf h.apart
  d := hC
  apart := fun g hg hm => (hs g hm).elim (fun h2 => h.apart g hg h2) (fun h2 => by have := h.c.lt g hg; omega)
  o1 := h.o1
  o2 := fun g hg => (hs g hg).elim (h.o2 g) (fun h2 => Nat.le_trans h.below.size h2)
  below := h.below.trans (hf.below h.below.size h.o2)
  cell := (hf.block B h.lt h.n2).trans h.cell
  n1 := h.n1
  n2 := fun hm => (hs B hm).elim h.n2 (fun h2 => by have := h.lt; omega)
theorem Thr.heap (h : Thr tick bc bd w wr K K' own own' B z) (hb : Below wr.heap.size wr w') : Thr tick bc bd w w' K K' own own' B z where
  c := h.c.below hb
  d := h.d.below hb
  apart := h.apart
  o1 := h.o1
  o2 := h.o2
  below := h.below.trans (hb.mono h.below.size)
  cell := (hb.block B h.lt).trans h.cell
  n1 := h.n1
  n2 := h.n2
theorem Thr.drewN (h : Thr tick bc bd w wr K K' own own' B z) (q : Nat) : Thr tick bc bd w (wr.drewN q) K K' own own' B z := h.heap ((Fr.drewN [] wr q).below (Nat.le_refl _) (by simp))
theorem Thr.drew (h : Thr tick bc bd w wr K K' own own' B z) : Thr tick bc bd w wr.drew K K' own own' B z := h.heap (drew_self wr)
theorem Thr.z1 (h : Thr tick bc bd w wr K K' own own' B z) : wr.cell? ⟨B, 1, none⟩ = some (.int .i64 z.2.1) := by rw [cellH h.cell]; rfl
theorem Thr.z2 (h : Thr tick bc bd w wr K K' own own' B z) : wr.cell? ⟨B, 2, none⟩ = some (.int .i32 z.2.2.1) := by rw [cellH h.cell]; rfl
theorem Thr.z3 (h : Thr tick bc bd w wr K K' own own' B z) : wr.cell? ⟨B, 3, none⟩ = some (.int .i64 z.2.2.2) := by rw [cellH h.cell]; rfl
end
def ApR (tick id : Int) (bc bd n : Nat) (w : World) (i : Value) (wr : World) : Prop := ∃ (k : Nat) (K K' : List KV) (own own' : List Nat), i = .int .i64 ↑k ∧ k ≤ n ∧ Clk wr tick K bc own ∧ Clk wr tick K' bd own' ∧ (∀ g ∈ own, g ∉ own') ∧ (∀ g ∈ own, w.heap.size ≤ g) ∧ (∀ g ∈ own', w.heap.size ≤ g) ∧ Below w.heap.size w wr ∧ getK K id = getK K' id ∧ K.length ≤ k ∧ K'.length ≤ k
theorem ApR.of {tick id : Int} {bc bd n k : Nat} {w wr : World} {K K' : List KV} {own own' : List Nat} {B : Nat} {z : BeatV} {i : Value} (h : Thr tick bc bd w wr K K' own own' B z) (hi : i = .int .i64 ↑k) (hk : k ≤ n) (hg : getK K id = getK K' id) (h1 : K.length ≤ k) (h2 : K'.length ≤ k) : ApR tick id bc bd n w i wr :=
  ⟨k, K, K', own, own', hi, hk, h.c, h.d, h.apart, h.o1, h.o2, h.below, hg, h1, h2⟩
theorem Thr.start {tick : Int} {bc bd : Nat} {w wr : World} {K K' : List KV} {own own' : List Nat} {z : BeatV} (hc : Clk wr tick K bc own) (hd : Clk wr tick K' bd own') (ha : ∀ g ∈ own, g ∉ own') (h1 : ∀ g ∈ own, w.heap.size ≤ g) (h2 : ∀ g ∈ own', w.heap.size ≤ g) (hb : Below w.heap.size w wr) :
    Thr tick bc bd w (wr.alloc (.cells #[.int .i64 z.1, .int .i64 z.2.1, .int .i32 z.2.2.1, .int .i64 z.2.2.2] 29)) K K' own own' wr.heap.size z where
  c := hc.below ((Below.refl _ wr).alloc (Nat.le_refl _) _)
  d := hd.below ((Below.refl _ wr).alloc (Nat.le_refl _) _)
  apart := ha
  o1 := h1
  o2 := h2
  below := hb.alloc hb.size _
  cell := heap_alloc_new _ _
  n1 := fun hm => by have := hc.lt _ hm; omega
  n2 := fun hm => by have := hd.lt _ hm; omega
end Go.Proofs.YtfnigjeklcagnaaGreatDoor

/- The document's clock beside the program's: what a call on one leaves of the other. No condition. -/
import Derived.Test.YtfnigjeklcagnaaGreatDoorRefT
import Derived.Test.YtfnigjeklcagnaaGreatDoorRefX8
import Derived.Test.YtfnigjeklcagnaaGreatDoorClkN
import Derived.Test.YtfnigjeklcagnaaGreatDoorBeat
namespace Go.Proofs.YtfnigjeklcagnaaGreatDoor
open Go.RowKit Go.MapKept Go.Maps
set_option maxRecDepth 100000 in
set_option maxHeartbeats 1000000 in
theorem refTouch_bad (rb : Nat) (id timeout now : Int) (w : World) (hb : ¬ touchOk id timeout now) :
    Calls Tryz.prog 17 #[.pointer (some ⟨rb, 0, none⟩), .int .i64 id, .int .i32 timeout, .int .i64 now] w fun e w' => e = .returned (.int .i64 1) ∧ w = w' := by
  have hc : id < 1 ∨ (¬ id < 1 ∧ timeout < 1) ∨ (¬ id < 1 ∧ ¬ timeout < 1 ∧ now < 0) ∨ (¬ id < 1 ∧ ¬ timeout < 1 ∧ ¬ now < 0 ∧ 1152921504606846976 < now) := by
    unfold touchOk at hb
    by_cases h1 : id < 1
    · exact .inl h1
    by_cases h2 : timeout < 1
    · exact .inr (.inl ⟨h1, h2⟩)
    by_cases h3 : now < 0
    · exact .inr (.inr (.inl ⟨h1, h2, h3⟩))
    by_cases h4 : 1152921504606846976 < now
    · exact .inr (.inr (.inr ⟨h1, h2, h3, h4⟩))
    · exact absurd ⟨by omega, by omega, by omega, by omega⟩ hb
  clear hb
  rcases hc with h1 | ⟨h1, h2⟩ | ⟨h1, h2, h3⟩ | ⟨h1, h2, h3, h4⟩
  all_goals (
    go_enter Tryz.func17, Tryz.ntmps17
    go_wp2_with fail
    go_ret
    exact ⟨rfl, rfl⟩)
def RefTouch2 (tick : Int) (K : List KV) (id timeout now : Int) (rb : Nat) (ro : List Nat) (w : World) (e : Ending) (w' : World) : Prop := ∃ L', RefPost (.int .i64 (touchE id timeout now)) tick L' rb ro w e w' ∧ Ref (touchK K tick id timeout now) L'
theorem refTouch_all (tick : Int) (K L : List KV) (rb : Nat) (ro : List Nat) (id timeout now : Int) (w : World) (h : RefC w tick L rb ro) (hr : Ref K L) (h1 : OneK K) (hL : L.length ≤ 1048576) (hid : wfI id) (hto : timeout ≤ 2147483647) (ht1 : 1 ≤ tick) (ht2 : tick ≤ 1099511627776) :
    Calls Tryz.prog 17 #[.pointer (some ⟨rb, 0, none⟩), .int .i64 id, .int .i32 timeout, .int .i64 now] w (RefTouch2 tick K id timeout now rb ro w) := by
  unfold RefTouch2
  by_cases hok : touchOk id timeout now
  · unfold touchE touchK
    rw [if_pos hok, if_pos hok]
    exact refTouch_any tick K L rb ro id timeout now w h hr h1 hL hok hid.2 hto ht1 ht2
  · unfold touchE touchK
    rw [if_neg hok, if_neg hok]
    refine (refTouch_bad rb id timeout now w hok).mono ?_
    rintro e w' ⟨rfl, rfl⟩
    exact ⟨L, ⟨rfl, ⟨ro, h, fun g hg => .inl hg⟩, Fr.refl _ _⟩, hr⟩
structure Two (tick : Int) (bc rb : Nat) (w wr : World) (K L : List KV) (own ro : List Nat) (B : Nat) (z : BeatV) : Prop where
  c : Clk wr tick K bc own
  r : RefC wr tick L rb ro
  apart : ∀ g ∈ own, g ∉ ro
  o1 : ∀ g ∈ own, w.heap.size ≤ g
  o2 : ∀ g ∈ ro, w.heap.size ≤ g
  below : Below w.heap.size w wr
  cell : wr.heap[B]? = some (.cells #[.int .i64 z.1, .int .i64 z.2.1, .int .i32 z.2.2.1, .int .i64 z.2.2.2] 29 (0, 0))
  n1 : B ∉ own
  n2 : B ∉ ro
section
variable {tick : Int} {bc rb : Nat} {w wr w' : World} {K L : List KV} {own ro : List Nat} {B : Nat} {z : BeatV}
theorem Two.lt (h : Two tick bc rb w wr K L own ro B z) : B < wr.heap.size := (Array.getElem?_eq_some_iff.1 h.cell).1
theorem Two.first (h : Two tick bc rb w wr K L own ro B z) {K2 : List KV} {own2 : List Nat} (hC : Clk w' tick K2 bc own2) (hs : ∀ g ∈ own2, g ∈ own ∨ wr.heap.size ≤ g) (hf : Fr own wr w') : Two tick bc rb w w' K2 L own2 ro B z where
  c := hC
  r := h.r.fr hf fun g hg hm => h.apart g hm hg
  apart := fun g hg hm => (hs g hg).elim (fun h2 => h.apart g h2 hm) (fun h2 => by have := h.r.lt g hm; omega)
  o1 := fun g hg => (hs g hg).elim (h.o1 g) (fun h2 => Nat.le_trans h.below.size h2)
  o2 := h.o2
  below := h.below.trans (hf.below h.below.size h.o1)
  cell := (hf.block B h.lt h.n1).trans h.cell
  n1 := fun hm => (hs B hm).elim h.n1 (fun h2 => by have := h.lt; omega)
  n2 := h.n2
theorem Two.second (h : Two tick bc rb w wr K L own ro B z) {L2 : List KV} {ro2 : List Nat} (hC : RefC w' tick L2 rb ro2) (hs : ∀ g ∈ ro2, g ∈ ro ∨ wr.heap.size ≤ g) (hf : Fr [rb] wr w') : Two tick bc rb w w' K L2 own ro2 B z where
  c := h.c.fr hf (fun g hg hm => h.apart g hg (by rw [List.mem_singleton.1 hm]; exact h.r.1))
  r := hC
  apart := fun g hg hm => (hs g hm).elim (fun h2 => h.apart g hg h2) (fun h2 => by have := h.c.lt g hg; omega)
  o1 := h.o1
  o2 := fun g hg => (hs g hg).elim (h.o2 g) (fun h2 => Nat.le_trans h.below.size h2)
  below := h.below.trans (hf.below h.below.size (fun g hg => by rw [List.mem_singleton.1 hg]; exact h.o2 rb h.r.1))
  cell := (hf.block B h.lt (fun hm => h.n2 (by rw [List.mem_singleton.1 hm]; exact h.r.1))).trans h.cell
  n1 := h.n1
  n2 := fun hm => (hs B hm).elim h.n2 (fun h2 => by have := h.lt; omega)
theorem Two.heap (h : Two tick bc rb w wr K L own ro B z) (hb : Below wr.heap.size wr w') : Two tick bc rb w w' K L own ro B z where
  c := h.c.below hb
  r := h.r.below hb
  apart := h.apart
  o1 := h.o1
  o2 := h.o2
  below := h.below.trans (hb.mono h.below.size)
  cell := (hb.block B h.lt).trans h.cell
  n1 := h.n1
  n2 := h.n2
theorem Two.drewN (h : Two tick bc rb w wr K L own ro B z) (q : Nat) : Two tick bc rb w (wr.drewN q) K L own ro B z := h.heap ((Fr.drewN [] wr q).below (Nat.le_refl _) (by simp))
theorem Two.drew (h : Two tick bc rb w wr K L own ro B z) : Two tick bc rb w wr.drew K L own ro B z := h.heap (drew_self wr)
theorem Two.keep3 {zk zi zt zn : Int} (h : Two tick bc rb w wr K L own ro B (zk, zi, zt, zn)) : wr.cell? ⟨B, 1, none⟩ = some (.int .i64 zi) ∧ wr.cell? ⟨B, 2, none⟩ = some (.int .i32 zt) ∧ wr.cell? ⟨B, 3, none⟩ = some (.int .i64 zn) := by
  rw [cellH h.cell, cellH h.cell, cellH h.cell]; exact ⟨rfl, rfl, rfl⟩
theorem Two.z1 (h : Two tick bc rb w wr K L own ro B z) : wr.cell? ⟨B, 1, none⟩ = some (.int .i64 z.2.1) := by rw [cellH h.cell]; rfl
theorem Two.z2 (h : Two tick bc rb w wr K L own ro B z) : wr.cell? ⟨B, 2, none⟩ = some (.int .i32 z.2.2.1) := by rw [cellH h.cell]; rfl
theorem Two.z3 (h : Two tick bc rb w wr K L own ro B z) : wr.cell? ⟨B, 3, none⟩ = some (.int .i64 z.2.2.2) := by rw [cellH h.cell]; rfl
end
def ClR (tick : Int) (bc rb n : Nat) (w : World) (i : Value) (wr : World) : Prop := ∃ (k : Nat) (K L : List KV) (own ro : List Nat), i = .int .i64 ↑k ∧ k ≤ n ∧ Clk wr tick K bc own ∧ RefC wr tick L rb ro ∧ Ref K L ∧ (∀ g ∈ own, g ∉ ro) ∧ (∀ g ∈ own, w.heap.size ≤ g) ∧ (∀ g ∈ ro, w.heap.size ≤ g) ∧ Below w.heap.size w wr ∧ K.length ≤ k
theorem ClR.of {tick : Int} {bc rb n k : Nat} {w wr : World} {K L : List KV} {own ro : List Nat} {B : Nat} {z : BeatV} {i : Value} (h : Two tick bc rb w wr K L own ro B z) (hi : i = .int .i64 ↑k) (hk : k ≤ n) (hr : Ref K L) (h1 : K.length ≤ k) : ClR tick bc rb n w i wr :=
  ⟨k, K, L, own, ro, hi, hk, h.c, h.r, hr, h.apart, h.o1, h.o2, h.below, h1⟩
theorem Two.start {tick : Int} {bc rb : Nat} {w wr : World} {K L : List KV} {own ro : List Nat} {z : BeatV} (hc : Clk wr tick K bc own) (hd : RefC wr tick L rb ro) (ha : ∀ g ∈ own, g ∉ ro) (h1 : ∀ g ∈ own, w.heap.size ≤ g) (h2 : ∀ g ∈ ro, w.heap.size ≤ g) (hb : Below w.heap.size w wr) :
    Two tick bc rb w (wr.alloc (.cells #[.int .i64 z.1, .int .i64 z.2.1, .int .i32 z.2.2.1, .int .i64 z.2.2.2] 29)) K L own ro wr.heap.size z where
  c := hc.below ((Below.refl _ wr).alloc (Nat.le_refl _) _)
  r := hd.below ((Below.refl _ wr).alloc (Nat.le_refl _) _)
  apart := ha
  o1 := h1
  o2 := h2
  below := hb.alloc hb.size _
  cell := heap_alloc_new _ _
  n1 := fun hm => by have := hc.lt _ hm; omega
  n2 := fun hm => by have := hd.lt _ hm; omega
theorem Ref.len {K L : List KV} (h : Ref K L) : L.length = K.length := h.1.length_eq
end Go.Proofs.YtfnigjeklcagnaaGreatDoor
